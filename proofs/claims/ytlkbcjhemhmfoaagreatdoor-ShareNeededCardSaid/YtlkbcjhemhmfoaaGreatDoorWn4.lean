/- Walks: push. -/
import Derived.Test.YtlkbcjhemhmfoaaGreatDoorWn3
set_option linter.unusedSimpArgs false
set_option linter.unusedVariables false
namespace Go.AM
open Go Go.Proofs
open Snow (Arc Pipe Send LevOK arcsOf Fits Small Pushed Reached Shut capOut)
set_option maxRecDepth 10000
set_option maxHeartbeats 1000000

theorem zerosN (n : Nat) : zeros n [.int .i64 0] = arr nC (List.replicate n 0) := by
  rw [zeros_reps, reps_one]
  induction n with
  | zero => rfl
  | succ n ih => rw [List.replicate_succ, List.replicate_succ, arr_cons, ← ih]; rfl
/-- Pipes that a network tells of. -/
structure PipesOK (ps : List Pipe) (out : List (List Nat)) : Prop where
  net : NetOK out (arcsOf ps)
  fits : Fits ps
  small : Small ps
  rows : Snow.Rows ps out
  ends : ∀ p ∈ ps, p.fr < out.length ∧ p.to < out.length
  net0 : 0 ≤ Snow.net ps 0
  cap : capOut ps ≤ 1152921504606846976
/-- What push comes to. -/
structure PushRes (ps : List Pipe) (t : Int) (qs : List Pipe) : Prop where
  pushed : Pushed ps t qs
  reach : ∃ R, Reached 0 1 R qs ∧ ∀ W : Nat → Prop, W 0 → ¬ W 1 → Shut W qs → ∀ v, R v = true → W v

theorem arcs_alike {ps qs : List Pipe} (a : Snow.Alike2 ps qs) : (arcsOf qs).length = (arcsOf ps).length ∧ ∀ k : Nat, ((arcsOf qs)[k]?).map (fun a => (a.to, a.back)) = ((arcsOf ps)[k]?).map fun a => (a.to, a.back) := by
  refine ⟨by rw [Snow.arcs_len, Snow.arcs_len, a.1], fun k => ?_⟩
  have hn : ∀ i : Nat, ps[i]? = none → qs[i]? = none := fun i h => by
    rw [List.getElem?_eq_none_iff] at h ⊢
    rw [a.1]; exact h
  rcases Nat.mod_two_eq_zero_or_one k with e | e
  · obtain ⟨i, rfl⟩ : ∃ i, k = 2 * i := ⟨k / 2, by omega⟩
    rw [Snow.arcs_even, Snow.arcs_even]
    cases hp : ps[i]? with
    | none => rw [hn i hp]
    | some p => obtain ⟨q, hq, h1, h2, h3⟩ := a.get hp; rw [hq]; simp [h2]
  · obtain ⟨i, rfl⟩ : ∃ i, k = 2 * i + 1 := ⟨k / 2, by omega⟩
    rw [Snow.arcs_odd, Snow.arcs_odd]
    cases hp : ps[i]? with
    | none => rw [hn i hp]
    | some p => obtain ⟨q, hq, h1, h2, h3⟩ := a.get hp; rw [hq]; simp [h1]
theorem PipesOK.pushed {ps qs : List Pipe} {out : List (List Nat)} {t : Int} (P : PipesOK ps out) (h : Pushed ps t qs) : NetOK out (arcsOf qs) ∧ Small qs ∧ Snow.Rows qs out ∧ (∀ p ∈ qs, p.fr < out.length ∧ p.to < out.length) ∧ (arcsOf qs).length = (arcsOf ps).length ∧ t ≤ capOut ps := by
  obtain ⟨h1, h2⟩ := arcs_alike h.sent.like
  refine ⟨P.net.shape h1 h2, P.small.alike h.sent.like, P.rows.alike h.sent.like, fun q hq => ?_, h1, ?_⟩
  · obtain ⟨p, hp, e1, e2, _⟩ := h.sent.like.mem hq
    rw [e1, e2]; exact P.ends p hp
  · have := h.bound; have := P.net0; omega

theorem c_push (ps : List Pipe) (out : List (List Nat)) (na : Nat) (hna : (arcsOf ps).length = na) (fa fo : Bool) (ne nd : Nat) (fe fd : Bool) (P : PipesOK ps out) :
    Ct envB 72 [.one (.ptr (some (0, 0)))] [⟨0, false, none, .ex (planC 1 na 2 out.length fa fo 3 ne fe 4 nd fd)⟩, ⟨1, true, none, .raw (arr arcC (arcsOf ps))⟩, ⟨2, false, none, .res (rows out)⟩] 5 { r : Int × List Pipe // PushRes ps r.1 r.2 }
      (fun a => iA a.1.1) (fun a => [⟨1, true, none, .raw (arr arcC (arcsOf a.1.2))⟩]) (fun _ => 5) := by
  have n2 := P.net.two
  have nb := P.net.ho
  have ab := P.net.hb
  have hc := P.cap
  have hn0 := P.net0
  refine Ct.of zB (fn := Tryz.f72) (by kernel_rfl) (by kernel_rfl) rfl rfl ?_
  refine Rn.loop zB 1000 rfl (T := Int × List Pipe) (fun t => (capOut ps - t.1).toNat) (fun t => Pushed ps t.1 t.2) (fun t => [(3, iA t.1), (1, .one (.ptr (some (5, 0))))]) (fun t => [⟨5, true, none, .ex [.ptr (some (0, 0))]⟩, ⟨0, false, none, .ex (planC 1 na 2 out.length fa fo 3 ne fe 4 nd fd)⟩, ⟨1, true, none, .raw (arr arcC (arcsOf t.2))⟩, ⟨2, false, none, .res (rows out)⟩]) (fun _ => 6) ((0, ps)) [some 0, some 1, some 2, some 3, some 4, some 5] (Pushed.refl P.fits) ⟨rfl, rfl, rfl, rfl, rfl, by (repeat' first | exact trivial | exact rfl | exact Or.inl (And.intro rfl rfl) | exact wsucc _ (by omega) | refine And.intro ?_ ?_ | refine Or.inr ?_), by (repeat' first | exact trivial | exact rfl | exact (by decide) | exact zerosI _ | exact zerosN _ | exact OfRaw.rows (by omega) | exact Or.inl (And.intro rfl rfl) | refine And.intro ?_ ?_ | refine Exists.intro _ (Exists.intro _ (And.intro rfl (And.intro (by decide) ?_))))⟩ ?_
  rintro ⟨total, qs⟩ hP
  dsimp only at hP
  obtain ⟨N1, S1, R1, E1, L1, T1⟩ := P.pushed hP
  have c := c_levels (arcsOf qs) out fa fo ne nd fe fd N1
  rw [L1, hna] at c
  refine Rn.call zB 1000 rfl (c) [some 0, some 1, some 2, some 3, some 4] rfl (by (repeat' first | exact trivial | exact rfl | exact Or.inl (And.intro rfl rfl) | exact wsucc _ (by omega) | refine And.intro ?_ ?_ | refine Or.inr ?_)) (by (repeat' first | exact trivial | exact rfl | exact (by decide) | exact zerosI _ | exact zerosN _ | exact OfRaw.rows (by omega) | exact Or.inl (And.intro rfl rfl) | refine And.intro ?_ ?_ | refine Exists.intro _ (Exists.intro _ (And.intro rfl (And.intro (by decide) ?_))))) rfl rfl rfl ?_
  rintro ⟨lev, L⟩
  refine ⟨_, _, rfl, ?_⟩
  obtain ⟨s, hs⟩ : ∃ s, lev[1]? = some s := ⟨lev[1]'(by rw [L.len]; exact n2), List.getElem?_eq_getElem _⟩
  refine Rn.ask zB 1000 rfl ⟨by omega, by omega⟩ ?_
  refine Rn.loadR zB 1000 rfl (LoadR.fld eI (i := 1) (f := 0) (v := .int .i64 s) hs (by simp) rfl rfl) ?_
  refine Rn.split zB 1000 rfl (fun hs0 => ?_) (fun hs0 => ?_)
  · have hs0 : s < 0 := by simpa using hs0
    refine Rn.out zB 1000 rfl rfl ?_
    refine Rn.fin zB 1000 rfl rfl rfl ⟨(total, qs), hP, _, L.reached R1 E1 hP.fits n2 hs hs0, fun W w0 w1 hW => L.inside R1 hs hs0 w0 hW⟩ [some 0, some 1, some 2, some 3, some 4] rfl rfl ?_ ?_ rfl rfl rfl
    · (repeat' first | exact trivial | exact rfl | exact Or.inl (And.intro rfl rfl) | exact wsucc _ (by omega) | refine And.intro ?_ ?_ | refine Or.inr ?_)
    · (repeat' first | exact trivial | exact rfl | exact (by decide) | exact zerosI _ | exact zerosN _ | exact OfRaw.rows (by omega) | exact Or.inl (And.intro rfl rfl) | refine And.intro ?_ ?_ | refine Exists.intro _ (Exists.intro _ (And.intro rfl (And.intro (by decide) ?_))))
  have hs0 : 0 ≤ s := by simp at hs0; omega
  refine Rn.ask zB 1000 rfl ⟨by omega, rfl, by show (8 : Int) * _ ≤ _; omega, by omega⟩ ?_
  have hB : Snow.LevB lev := fun v x h => by have := L.hi v x h; omega
  have cs := fun (ar : List Arc) (nx : List Nat) (h1 : NetOK out ar) (h2 : ar.length = na) (h3 : nx.length = out.length) => c_send na out lev fa fo ne nd fe fd hB L.len out.length (fun v x h => by have := L.hi v x h; omega) (out.length + 1) 0 0 1152921504606846976 ar nx L.src (by omega) h1 h2 h3
  have c := cs (arcsOf qs) (List.replicate out.length 0) N1 (by omega) (by simp)
  refine Rn.call zB 1000 rfl (c) [some 9, some 5, some 7, some 10, some 8, some 6, some 0, some 1, some 2, some 3, some 4] rfl (by (repeat' first | exact trivial | exact rfl | exact Or.inl (And.intro rfl rfl) | exact wsucc _ (by omega) | refine And.intro ?_ ?_ | refine Or.inr ?_)) (by (repeat' first | exact trivial | exact rfl | exact (by decide) | exact zerosI _ | exact zerosN _ | exact OfRaw.rows (by omega) | exact Or.inl (And.intro rfl rfl) | refine And.intro ?_ ?_ | refine Exists.intro _ (Exists.intro _ (And.intro rfl (And.intro (by decide) ?_))))) rfl rfl rfl ?_
  rintro ⟨⟨g, ar, nx⟩, hS⟩
  dsimp only at hS
  refine ⟨_, _, rfl, ?_⟩
  have hg := hS.first wrap_ok hP.fits S1 R1 (by decide) L (by omega) (fun v n h => by
    rw [List.getElem?_replicate] at h
    split at h
    · injection h with h; exact h.symm
    · cases h) hs hs0
  obtain ⟨rs, rfl, ok⟩ := hS.ok wrap_ok hB qs rfl hP.fits S1 R1 (by decide)
  have hP1 := hP.next ok
  have hnx : nx.length = out.length := by rw [hS.len.2]; simp
  refine Rn.loop zB 1000 rfl (T := Int × Int × List Pipe × List Nat) (fun t => (capOut ps - t.2.1).toNat) (fun t => Pushed ps (t.2.1 + t.1) t.2.2.1 ∧ t.2.2.2.length = out.length ∧ 0 ≤ t.1 ∧ (total < t.2.1 ∨ (t.2.1 = total ∧ 0 < t.1))) (fun t => [(7, iA t.1), (6, .one (.ptr (some (10, 0)))), (3, iA t.2.1), (1, .one (.ptr (some (5, 0))))]) (fun t => [⟨10, true, none, .ex [.fn 133 [(9, 0), (5, 0), (7, 0), (10, 0)]]⟩, ⟨9, true, none, .ex [.sl (some (8, 0)) out.length true 1]⟩, ⟨8, true, none, .raw (arr nC t.2.2.2)⟩, ⟨7, true, none, .ex [.sl (some (6, 0)) out.length true 1]⟩, ⟨6, true, none, .raw (arr iC lev)⟩,
      ⟨5, true, none, .ex [.ptr (some (0, 0))]⟩, ⟨0, false, none, .ex (planC 1 na 2 out.length fa fo 3 ne fe 4 nd fd)⟩, ⟨1, true, none, .raw (arr arcC (arcsOf t.2.2.1))⟩, ⟨2, false, none, .res (rows out)⟩]) (fun _ => 11) ((g, total, rs, nx)) [some 0, some 1, some 2, some 3, some 4, some 5, some 6, some 7, some 8, some 9, some 10] (⟨hP1, hnx, ok.g0, .inr ⟨rfl, hg⟩⟩) ⟨rfl, rfl, rfl, rfl, rfl, by (repeat' first | exact trivial | exact rfl | exact Or.inl (And.intro rfl rfl) | exact wsucc _ (by omega) | refine And.intro ?_ ?_ | refine Or.inr ?_), by (repeat' first | exact trivial | exact rfl | exact (by decide) | exact zerosI _ | exact zerosN _ | exact OfRaw.rows (by omega) | exact Or.inl (And.intro rfl rfl) | refine And.intro ?_ ?_ | refine Exists.intro _ (Exists.intro _ (And.intro rfl (And.intro (by decide) ?_))))⟩ ?_
  rintro ⟨g, tot, rs, nx⟩ ⟨hP1, hnx, hg0, hgt⟩
  dsimp only at hP1 hnx hg0 hgt
  obtain ⟨N2, S2, R2, E2, L2, T2⟩ := P.pushed hP1
  have ht0 := hP.t0
  refine Rn.split zB 1000 rfl (fun hg => ?_) (fun hg => ?_)
  · have hg : 0 < g := by simpa using hg
    have hw : IntKind.wrap .i64 (tot + g) = tot + g := w64_id (by omega) (by omega)
    have c := cs (arcsOf rs) nx N2 (by omega) hnx
    refine Rn.call zB 1000 rfl (c) [some 9, some 5, some 7, some 10, some 8, some 6, some 0, some 1, some 2, some 3, some 4] rfl (by (repeat' first | exact trivial | exact rfl | exact Or.inl (And.intro rfl rfl) | exact wsucc _ (by omega) | refine And.intro ?_ ?_ | refine Or.inr ?_)) (by (repeat' first | exact trivial | exact rfl | exact (by decide) | exact zerosI _ | exact zerosN _ | exact OfRaw.rows (by omega) | exact Or.inl (And.intro rfl rfl) | refine And.intro ?_ ?_ | refine Exists.intro _ (Exists.intro _ (And.intro rfl (And.intro (by decide) ?_))))) rfl rfl rfl ?_
    rintro ⟨⟨g', ar, nx'⟩, hS'⟩
    dsimp only at hS'
    refine ⟨_, _, rfl, ?_⟩
    obtain ⟨rs', rfl, ok'⟩ := hS'.ok wrap_ok hB rs rfl hP1.fits S2 R2 (by decide)
    refine Rn.again zB 1000 rfl ((g', tot + g, rs', nx')) [some 0, some 1, some 2, some 3, some 4, some 5, some 6, some 7, some 8, some 9, some 10] (by dsimp only; omega) ⟨hP1.next ok', by rw [hS'.len.2]; exact hnx, ok'.g0, .inl (by dsimp only; omega)⟩ ⟨rfl, rfl, rfl, rfl, rfl, by rw [hw]; (repeat' first | exact trivial | exact rfl | exact Or.inl (And.intro rfl rfl) | exact wsucc _ (by omega) | refine And.intro ?_ ?_ | refine Or.inr ?_), by (repeat' first | exact trivial | exact rfl | exact (by decide) | exact zerosI _ | exact zerosN _ | exact OfRaw.rows (by omega) | exact Or.inl (And.intro rfl rfl) | refine And.intro ?_ ?_ | refine Exists.intro _ (Exists.intro _ (And.intro rfl (And.intro (by decide) ?_))))⟩
  · have hg : g = 0 := by simp at hg; omega
    subst hg
    rw [Int.add_zero] at hP1
    refine Rn.out zB 1000 rfl rfl ?_
    refine Rn.again zB 1000 rfl ((tot, rs)) [some 0, some 1, some 2, some 3, some 4, some 5] (by dsimp only; omega) hP1 ⟨rfl, rfl, rfl, rfl, rfl, by (repeat' first | exact trivial | exact rfl | exact Or.inl (And.intro rfl rfl) | exact wsucc _ (by omega) | refine And.intro ?_ ?_ | refine Or.inr ?_), by (repeat' first | exact trivial | exact rfl | exact (by decide) | exact zerosI _ | exact zerosN _ | exact OfRaw.rows (by omega) | exact Or.inl (And.intro rfl rfl) | refine And.intro ?_ ?_ | refine Exists.intro _ (Exists.intro _ (And.intro rfl (And.intro (by decide) ?_))))⟩
end Go.AM
