/- Walks: promised. -/
import Derived.Test.YtlkbcjhemhmfoaaGreatDoorWp0
set_option linter.unusedSimpArgs false
set_option linter.unusedVariables false
namespace Go.AM
open Go Go.Proofs
open Snow (Arc Pipe arcsOf)
set_option maxRecDepth 10000
set_option maxHeartbeats 1000000

/-- What is promised. -/
structure PromRes (rs : List Rt) (ss : List Su) (po : List Po) (p : List Int) : Prop where
  len : p.length = rs.length
  prom : Snow.Promised (instOf rs ss po) (claimOf rs) (fun j => p.getD j 0)

theorem vOf_zero (n : Nat) : vOf (List.replicate n 0) = fun _ => 0 := by
  funext k
  unfold vOf
  rw [List.getD_eq_getElem?_getD, List.getElem?_replicate]
  split <;> rfl

theorem c_promisedX (rx rs : List Rt) (hpre : ∀ (i : Nat) (r : Rt), rs[i]? = some r → rx[i]? = some r) (ss : List Su) (po : List Po) (f1 f2 f3 : Bool) (B : ShB rs ss po) :
    Ct envB 91 [shA rs.length ss.length po.length f1 f2 f3] (shB rx ss po) 3 { p : List Int // PromRes rs ss po p } (fun _ => slA 3 0 rs.length true 1) (fun a => [⟨3, true, none, .raw (arr iC a.1)⟩]) (fun _ => 4) := by
  have nr := B.nr
  have ns := B.ns
  have np := B.np
  have hv0 : ∀ k, k < rs.length → 0 ≤ vOf (List.replicate rs.length 0) k ∧ vOf (List.replicate rs.length 0) k ≤ 1099511627776 := fun k _ => by rw [vOf_zero]; exact ⟨Int.le_refl _, show (0 : Int) ≤ _ by decide⟩
  have c := c_layX rx rs hpre ss po f1 f2 f3 true (List.replicate rs.length 0) nr ns (by omega) (by simp)
  obtain ⟨Z, hZ⟩ : ∃ Z, Z = vOf (List.replicate rs.length 0) := ⟨_, rfl⟩
  have hl0 := layP_len (rs := rs) (ss := ss) (po := po) Z nr ns
  have hlay : ∀ out ends draws, LayRes rs ss po (List.replicate rs.length 0) out ends draws → OutOK (2 + ss.length + rs.length) (layP rs ss po Z rs.length) out ∧ EndsOK ss.length Z rs.length (layP rs ss po Z rs.length) ends := fun out ends draws L => by
    rw [hZ]; exact ⟨L.o, L.e⟩
  rw [← hZ] at c hv0
  have hZ0 : Z = fun _ => 0 := hZ.trans (vOf_zero _)
  obtain ⟨na, hna⟩ : ∃ na, na = 2 * (layP rs ss po Z rs.length).length := ⟨_, rfl⟩
  rw [← hna] at c
  refine Ct.of zB (fn := Tryz.f91) (by kernel_rfl) (by kernel_rfl) rfl rfl ?_
  refine Rn.draw zB 1000 [0, 0, 2, 6, 14, 31, 63] rfl (by kernel_rfl) (by kernel_rfl) ?_
  refine Rn.ask zB 1000 rfl ⟨by omega, rfl, by show (8 : Int) * _ ≤ _; omega, by omega⟩ ?_
  refine Rn.call zB 1000 rfl (c) [some 0, some 1, some 2, some 4] rfl (by (repeat' first | exact trivial | exact rfl | exact Or.inl (And.intro rfl rfl) | exact wsucc _ (by omega) | exact wlin (by first | omega | (push_cast; omega)) (by omega) | exact wint (by omega) (by omega) | refine And.intro ?_ ?_ | refine Or.inr ?_)) (by (repeat' first | exact trivial | exact rfl | exact (by decide) | exact zerosI _ | exact zerosN _ | exact OfRaw.rows (by omega) | exact Or.inl (And.intro rfl rfl) | refine And.intro ?_ ?_ | refine Exists.intro _ (Exists.intro _ (And.intro rfl (And.intro (by decide) ?_))))) rfl rfl rfl ?_
  rintro ⟨⟨out, ends, draws⟩, L⟩
  dsimp only at L
  refine ⟨_, _, rfl, ?_⟩
  refine Rn.ask zB 1000 rfl ⟨by omega, rfl, by show (8 : Int) * _ ≤ _; omega, by omega⟩ ?_
  obtain ⟨O0, EE⟩ := hlay out ends draws L
  have P0 := layP_pipes B hv0 O0 hl0
  have E0 := layP_laid B hv0 EE
  have S0 : Snow.PS (instOf rs ss po) (claimOf rs) endless ends 0 (layP rs ss po Z rs.length) (fun j => (List.replicate rs.length (0 : Int)).getD j 0) := Snow.PS.start (by
    have := E0
    rw [hZ0] at this ⊢
    exact this) (fun q hq => layP_now hq) (fun q hq => (layP_most B hv0 hq).1) _
  refine Rn.loop zB 1000 rfl (T := Nat × List Pipe × List Int) (fun t => rs.length - t.1) (fun t => t.1 ≤ rs.length ∧ (arcsOf t.2.1).length = na ∧ t.2.2.length = rs.length ∧ PipesOK t.2.1 out ∧ Snow.PS (instOf rs ss po) (claimOf rs) endless ends t.1 t.2.1 (fun j => t.2.2.getD j 0)) (fun t => [(20, iA t.1), (19, iA rs.length), (18, slA 0 0 rs.length f1 7), (4, slA 10 0 rs.length true 1), (3, .one (.ptr (some (5, 0)))), (1, .one (.ptr (some (3, 0))))]) (fun t => [⟨3, true, none, .ex [.sl (some (0, 0)) rs.length f1 7, .sl (some (1, 0)) ss.length f2 3, .sl (some (2, 0)) po.length f3 2]⟩, ⟨5, true, none, .ex (planC 6 na 7 (2 + ss.length + rs.length) false true 8 rs.length false 9 draws.length false)⟩, ⟨6, true, none, .raw (arr arcC (arcsOf t.2.1))⟩, ⟨7, true, none, .res (rows out)⟩, ⟨8, true, none, .raw (arr nC ends)⟩, ⟨10, true, none, .raw (arr iC t.2.2)⟩] ++ shB rx ss po) (fun _ => 11) ((0, layP rs ss po Z rs.length, List.replicate rs.length 0)) [some 0, some 1, some 2, some 3, some 4, some 5, some 6, some 7, some 8, some 9, some 10] (⟨Nat.zero_le _, by dsimp only; rw [Snow.arcs_len, hna], by simp, P0, S0⟩) ⟨rfl, rfl, rfl, rfl, rfl, by (repeat' first | exact trivial | exact rfl | exact Or.inl (And.intro rfl rfl) | exact wsucc _ (by omega) | exact wlin (by first | omega | (push_cast; omega)) (by omega) | exact wint (by omega) (by omega) | refine And.intro ?_ ?_ | refine Or.inr ?_), by (repeat' first | exact trivial | exact rfl | exact (by decide) | exact zerosI _ | exact zerosN _ | exact OfRaw.rows (by omega) | exact Or.inl (And.intro rfl rfl) | refine And.intro ?_ ?_ | refine Exists.intro _ (Exists.intro _ (And.intro rfl (And.intro (by decide) ?_))))⟩ ?_
  rintro ⟨k, ps, pl⟩ ⟨hk, hal, hpl, P, S⟩
  dsimp only at hk hal hpl P S
  refine Rn.split zB 1000 rfl (fun hlt => ?_) (fun hlt => ?_)
  · have hlt : k < rs.length := by simpa using hlt
    obtain ⟨r, hrk⟩ : ∃ r, rs[k]? = some r := ⟨rs[k], List.getElem?_eq_getElem hlt⟩
    have hcl : claimOf rs k = r.claim := by unfold claimOf; rw [hrk]
    have hc := B.claimOf k
    obtain ⟨j, q, h1, h2, h3, h4, h5⟩ := S.laid.ends k hlt
    have hfit := S.flows.fits q (List.mem_of_getElem? h2)
    have hq0 : q.now = 0 := by
      rw [h5] at hfit
      unfold Snow.upTo at hfit
      rw [if_neg (Nat.lt_irrefl k)] at hfit
      omega
    have hjl := (List.getElem?_eq_some_iff.mp h2).1
    have hal2 := Snow.arcs_len ps
    have ha := Snow.arcs_even ps j
    rw [h2, Option.map_some] at ha
    have e1 := Snow.arcs_setMost h2 (claimOf rs k)
    have P1 := P.setMost h2 (by rw [h3]; omega) (x := claimOf rs k) (by omega) (by omega)
    have el1 : (arcsOf (Snow.setMost ps j (claimOf rs k))).length = na := by rw [e1, List.length_set]; exact hal
    refine Rn.ask zB 1000 rfl ⟨by first | omega | (dsimp only; omega), by first | omega | (dsimp only; omega)⟩ ?_
    refine Rn.loadR zB 1000 rfl (LoadR.elt eRt (hpre _ _ hrk) (by simp)) ?_
    refine Rn.draw zB 1000 [0, 1, 3, 7, 15, 0, 32, 96, 224, 0, 992, 2016, 0, 4096, 16383, 32767, 65535] rfl (by kernel_rfl) (by kernel_rfl) ?_
    refine Rn.ask zB 1000 rfl ⟨by omega, by omega⟩ ?_
    refine Rn.loadR zB 1000 rfl (LoadR.fld eN (f := 0) (v := .int .i64 (2 * j : Nat)) h1 (by simp) rfl rfl) ?_
    refine Rn.ask zB 1000 rfl ⟨by omega, by omega⟩ ?_
    refine Rn.storeR zB 1000 rfl ((by rw [e1]; exact StoreR.fld eArc (f := 1) (a' := ⟨q.to, claimOf rs k - q.now, 2 * j + 1⟩) ha (by rw [Int.toNat_natCast, Nat.zero_add]) (by omega) (by rw [hcl, hq0, Int.sub_zero]; rfl) : StoreR _ _ _ (arr arcC (arcsOf (Snow.setMost ps j (claimOf rs k)))))) rfl ?_
    have c2 := c_push (Snow.setMost ps j (claimOf rs k)) out na el1 false true rs.length draws.length false false P1
    rw [O0.len] at c2
    refine Rn.call zB 1000 rfl (c2) [some 5, some 6, some 7, some 8, some 9] rfl (by (repeat' first | exact trivial | exact rfl | exact Or.inl (And.intro rfl rfl) | exact wsucc _ (by omega) | exact wlin (by first | omega | (push_cast; omega)) (by omega) | exact wint (by omega) (by omega) | refine And.intro ?_ ?_ | refine Or.inr ?_)) (by (repeat' first | exact trivial | exact rfl | exact (by decide) | exact zerosI _ | exact zerosN _ | exact OfRaw.rows (by omega) | exact Or.inl (And.intro rfl rfl) | refine And.intro ?_ ?_ | refine Exists.intro _ (Exists.intro _ (And.intro rfl (And.intro (by decide) ?_))))) rfl rfl rfl ?_
    rintro ⟨⟨t, qs⟩, hPu⟩
    dsimp only at hPu
    refine ⟨_, _, rfl, ?_⟩
    obtain ⟨R, hR, hRW⟩ := hPu.reach
    have hPP := hPu.pushed
    have P2 := P1.after hPP
    obtain ⟨x, hx⟩ : ∃ x, qs[j]? = some x := by
      obtain ⟨y, hy, _⟩ := hPP.sent.like.get (show (Snow.setMost ps j (claimOf rs k))[j]? = some _ by rw [Snow.setMost_get h2, if_pos rfl])
      exact ⟨y, hy⟩
    have el2 : (arcsOf qs).length = na := by rw [(arcs_alike hPP.sent.like).1]; exact el1
    have hx2 := Snow.arcs_even qs j
    rw [hx, Option.map_some] at hx2
    have e2 := Snow.arcs_setMost hx x.now
    have hxf : x.fr = 2 + ss.length + k := by
      obtain ⟨y, hy, h6, _⟩ := hPP.sent.like.get (show (Snow.setMost ps j (claimOf rs k))[j]? = some _ by rw [Snow.setMost_get h2, if_pos rfl])
      rw [hx] at hy; injection hy with hy; subst hy
      rw [h6]; exact h3
    have hxn := P2.fits x (List.mem_of_getElem? hx)
    have hxs := P2.small x (List.mem_of_getElem? hx)
    have P3 := P2.setMost hx (by omega) (x := x.now) (Int.le_refl _) (by omega)
    have S3 := S.step hlt hc.1 (by unfold endless; omega) (fun j _ => (B.claimOf j).1) (fun j _ => by have := B.claimOf j; unfold endless; omega) h1 h2 hPP hx hR hRW
    rw [upd_getD (by omega)] at S3
    refine Rn.ask zB 1000 rfl ⟨by omega, by omega⟩ ?_
    refine Rn.storeR zB 1000 rfl (StoreR.fld eI (f := 0) (a' := t) (show pl[k]? = some (pl[k]'(by omega)) from List.getElem?_eq_getElem _) (by simp) (by omega) rfl) rfl ?_
    refine Rn.draw zB 1000 [0, 1, 3, 7, 15, 0, 32, 96, 224, 0, 992, 2016, 4095, 8191, 16383] rfl (by kernel_rfl) (by kernel_rfl) ?_
    refine Rn.ask zB 1000 rfl ⟨by omega, by omega⟩ ?_
    refine Rn.loadR zB 1000 rfl (LoadR.fld eN (f := 0) (v := .int .i64 (2 * j : Nat)) h1 (by simp) rfl rfl) ?_
    refine Rn.ask zB 1000 rfl ⟨by omega, by omega⟩ ?_
    refine Rn.storeR zB 1000 rfl ((by rw [e2]; exact StoreR.fld eArc (f := 1) (a' := ⟨x.to, x.now - x.now, 2 * j + 1⟩) hx2 (by rw [Int.toNat_natCast, Nat.zero_add]) (by omega) (by rw [Int.sub_self]; rfl) : StoreR _ _ _ (arr arcC (arcsOf (Snow.setMost qs j x.now))))) rfl ?_ 
    refine Rn.again zB 1000 rfl ((k + 1, Snow.setMost qs j x.now, pl.set k t)) [some 0, some 1, some 2, some 3, some 4, some 5, some 6, some 7, some 8, some 9, some 10] (by dsimp only; omega) (⟨hlt, by dsimp only; rw [e2, List.length_set]; exact el2, by simpa using hpl, P3, S3⟩) ⟨rfl, rfl, rfl, rfl, rfl, by (repeat' first | exact trivial | exact rfl | exact Or.inl (And.intro rfl rfl) | exact wsucc _ (by omega) | exact wlin (by first | omega | (push_cast; omega)) (by omega) | exact wint (by omega) (by omega) | refine And.intro ?_ ?_ | refine Or.inr ?_), by (repeat' first | exact trivial | exact rfl | exact (by decide) | exact zerosI _ | exact zerosN _ | exact OfRaw.rows (by omega) | exact Or.inl (And.intro rfl rfl) | refine And.intro ?_ ?_ | refine Exists.intro _ (Exists.intro _ (And.intro rfl (And.intro (by decide) ?_))))⟩
  · have hk : k = rs.length := by simp at hlt; omega
    subst hk
    refine Rn.out zB 1000 rfl rfl ?_
    refine Rn.fin zB 1000 rfl rfl rfl ⟨pl, hpl, S.promised⟩ [some 0, some 1, some 2, some 10] rfl rfl ?_ ?_ rfl rfl rfl
    · (repeat' first | exact trivial | exact rfl | exact Or.inl (And.intro rfl rfl) | exact wsucc _ (by omega) | exact wlin (by first | omega | (push_cast; omega)) (by omega) | exact wint (by omega) (by omega) | refine And.intro ?_ ?_ | refine Or.inr ?_)
    · (repeat' first | exact trivial | exact rfl | exact (by decide) | exact zerosI _ | exact zerosN _ | exact OfRaw.rows (by omega) | exact Or.inl (And.intro rfl rfl) | refine And.intro ?_ ?_ | refine Exists.intro _ (Exists.intro _ (And.intro rfl (And.intro (by decide) ?_))))
theorem c_promised (rs : List Rt) (ss : List Su) (po : List Po) (f1 f2 f3 : Bool) (B : ShB rs ss po) :
    Ct envB 91 [shA rs.length ss.length po.length f1 f2 f3] (shB rs ss po) 3 { p : List Int // PromRes rs ss po p } (fun _ => slA 3 0 rs.length true 1) (fun a => [⟨3, true, none, .raw (arr iC a.1)⟩]) (fun _ => 4) := c_promisedX rs rs (fun _ _ h => h) ss po f1 f2 f3 B
end Go.AM
