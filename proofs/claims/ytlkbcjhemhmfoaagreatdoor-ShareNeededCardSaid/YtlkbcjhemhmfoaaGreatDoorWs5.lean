/- Walks: Enough and Promise. -/
import Derived.Test.YtlkbcjhemhmfoaaGreatDoorWs4
import Derived.Test.YtlkbcjhemhmfoaaGreatDoorWq4
import Derived.Test.YtlkbcjhemhmfoaaGreatDoorWp1
set_option linter.unusedSimpArgs false
set_option linter.unusedVariables false
namespace Go.AM
open Go Go.Proofs
open Snow (Arc Pipe arcsOf Laid IsMax)
set_option maxRecDepth 10000
set_option maxHeartbeats 1000000

theorem VolOK.bound {rs : List Rt} {ss : List Su} {po : List Po} {vs : List Int} (B : ShB rs ss po) (V : VolOK rs vs) : ∀ k, k < rs.length → 0 ≤ vOf vs k ∧ vOf vs k ≤ 1099511627776 := fun k hk => by
  have hl := V.len
  have h := V.v k (vs[k]'(by omega)) rs[k] (List.getElem?_eq_getElem _) (List.getElem?_eq_getElem _)
  have hc := B.claim rs[k] (List.getElem_mem _)
  have e : vOf vs k = vs[k]'(by omega) := by unfold vOf; rw [List.getD_eq_getElem?_getD, List.getElem?_eq_getElem (by omega)]; rfl
  rw [e]; omega
theorem push_max {rs : List Rt} {ss : List Su} {po : List Po} (B : ShB rs ss po) {v : Nat → Int} (hv : ∀ k, k < rs.length → 0 ≤ v k ∧ v k ≤ 1099511627776) {ends : List Nat} (hE : EndsOK ss.length v rs.length (layP rs ss po v rs.length) ends) {t : Int} {qs : List Pipe} (P : PushRes (layP rs ss po v rs.length) t qs) : IsMax (instOf rs ss po) v t := by
  have L := (layP_laid B hv hE).laid.alike P.pushed.sent.like
  have hs := P.pushed.sent
  obtain ⟨R, hR, _⟩ := P.reach
  have hz : ∀ u, Snow.net (layP rs ss po v rs.length) u = 0 := fun u => Snow.LS_zero fun p hp => by rw [layP_now hp]; simp
  have Fl : Snow.Flows 0 1 qs := ⟨fun x hx => (P.pushed.fits x hx).1, fun x hx => (P.pushed.fits x hx).2, fun u h1 h2 => by rw [hs.net, hz, if_neg (fun c => h1 c.symm), if_neg (fun c => h2 c.symm)]; rfl⟩
  have hva := L.value Fl
  have hn := hs.net 1
  rw [hz, if_neg (by omega), if_pos rfl] at hn
  have e : t = Snow.S (instOf rs ss po).m ((Snow.flOf (instOf rs ss po) 0 2 qs).took (instOf rs ss po)) := by omega
  rw [e]
  exact L.isMax Fl hR
open Classical in
/-- The largest amount that can be taken. -/
noncomputable def maxOf (I : Snow.Inst) (l : Nat → Int) : Int := if h : ∃ v, IsMax I l v then Classical.choose h else 0
theorem maxOf_eq {I : Snow.Inst} {l : Nat → Int} {v : Int} (h : IsMax I l v) : maxOf I l = v := by
  unfold maxOf
  rw [dif_pos ⟨v, h⟩]
  exact (Classical.choose_spec (⟨v, h⟩ : ∃ v, IsMax I l v)).unique h
noncomputable def enB (rs : List Rt) (ss : List Su) (po : List Po) (vs : List Int) : Bool := maxOf (instOf rs ss po) (vOf vs) == sumW vs
noncomputable def enL (rs : List Rt) (ss : List Su) (po : List Po) (vs : List Int) : Bool := if wErr rs ss po vs = 0 then enB rs ss po vs else false
noncomputable def enV (rs : List Rt) (ss : List Su) (po : List Po) (vs : List Int) : AV := .tup [(false, [.bool (enL rs ss po vs)]), (false, [.int .i64 (wErr rs ss po vs)])]
theorem enL_bad {rs : List Rt} {ss : List Su} {po : List Po} {vs : List Int} (h : wErr rs ss po vs ≠ 0) : enL rs ss po vs = false := if_neg h
theorem enL_ok {rs : List Rt} {ss : List Su} {po : List Po} {vs : List Int} (h : wErr rs ss po vs = 0) : enL rs ss po vs = enB rs ss po vs := if_pos h

theorem c_enough (rs : List Rt) (ss : List Su) (po : List Po) (vs : List Int) (f1 f2 f3 f4 : Bool) (h1 : rs.length < 90000000000) (h2 : ss.length < 90000000000) (h3 : po.length < 90000000000) : Ct0 envB 40 [shA rs.length ss.length po.length f1 f2 f3, slA 3 0 vs.length f4 1] (shV rs ss po vs) 4 (enV rs ss po vs) := by
  refine Ct.of zB (fn := Tryz.f40) (by kernel_rfl) (by kernel_rfl) rfl rfl ?_
  refine Rn.call0 zB 1000 rfl (c_wants rs ss po vs f1 f2 f3 f4 h1 h2 h3) [some 0, some 1, some 2, some 3] rfl rfl (by (repeat' first | exact trivial | exact rfl | exact Or.inl (And.intro rfl rfl) | exact wsucc _ (by omega) | exact wlin (by first | omega | (push_cast; omega)) (by omega) | exact wint (by omega) (by omega) | refine And.intro ?_ ?_ | refine Or.inr ?_)) (by (repeat' first | exact trivial | exact rfl | exact (by decide) | exact zerosI _ | exact zerosN _ | exact OfRaw.rows (by omega) | exact Or.inl (And.intro rfl rfl) | refine And.intro ?_ ?_ | refine Exists.intro _ (Exists.intro _ (And.intro rfl (And.intro (by decide) ?_))))) rfl rfl rfl rfl rfl ?_
  refine Rn.split zB 1000 rfl (fun e0 => ?_) (fun e0 => ?_)
  · refine Rn.fin0 zB 1000 rfl rfl rfl rfl ?_
    unfold enV
    rw [enL_bad (by simpa using e0)]
  have e0 : wErr rs ss po vs = 0 := by simpa using e0
  obtain ⟨hok, hvo⟩ := wErr_zero e0
  have B := hok.b
  have hvb := hvo.bound B
  have hl := hvo.len
  have nr := B.nr
  have ns := B.ns
  have np := B.np
  have c := c_lay rs ss po f1 f2 f3 f4 vs nr ns (by omega) hl
  rw [hl]
  refine Rn.call zB 1000 rfl (c) [some 0, some 1, some 2, some 3] rfl (by (repeat' first | exact trivial | exact rfl | exact Or.inl (And.intro rfl rfl) | exact wsucc _ (by omega) | exact wlin (by first | omega | (push_cast; omega)) (by omega) | exact wint (by omega) (by omega) | refine And.intro ?_ ?_ | refine Or.inr ?_)) (by (repeat' first | exact trivial | exact rfl | exact (by decide) | exact zerosI _ | exact zerosN _ | exact OfRaw.rows (by omega) | exact Or.inl (And.intro rfl rfl) | refine And.intro ?_ ?_ | refine Exists.intro _ (Exists.intro _ (And.intro rfl (And.intro (by decide) ?_))))) rfl rfl rfl ?_
  rintro ⟨⟨out, ends, draws⟩, L⟩
  dsimp only at L
  refine ⟨_, _, rfl, ?_⟩
  have P0 := layP_pipes B hvb L.o (layP_len _ nr ns)
  have c2 := c_push (layP rs ss po (vOf vs) rs.length) out _ (Snow.arcs_len _) false true rs.length draws.length false false P0
  rw [L.o.len] at c2
  refine Rn.call zB 1000 rfl (c2) [some 5, some 6, some 7, some 8, some 9] rfl (by (repeat' first | exact trivial | exact rfl | exact Or.inl (And.intro rfl rfl) | exact wsucc _ (by omega) | exact wlin (by first | omega | (push_cast; omega)) (by omega) | exact wint (by omega) (by omega) | refine And.intro ?_ ?_ | refine Or.inr ?_)) (by (repeat' first | exact trivial | exact rfl | exact (by decide) | exact zerosI _ | exact zerosN _ | exact OfRaw.rows (by omega) | exact Or.inl (And.intro rfl rfl) | refine And.intro ?_ ?_ | refine Exists.intro _ (Exists.intro _ (And.intro rfl (And.intro (by decide) ?_))))) rfl rfl rfl ?_
  rintro ⟨⟨t, qs⟩, hPu⟩
  dsimp only at hPu
  refine ⟨_, _, rfl, ?_⟩
  have cs := c_sum vs f4 (by omega)
  rw [hl] at cs
  refine Rn.call0 zB 1000 rfl (cs) [some 3] rfl rfl (by (repeat' first | exact trivial | exact rfl | exact Or.inl (And.intro rfl rfl) | exact wsucc _ (by omega) | exact wlin (by first | omega | (push_cast; omega)) (by omega) | exact wint (by omega) (by omega) | refine And.intro ?_ ?_ | refine Or.inr ?_)) (by (repeat' first | exact trivial | exact rfl | exact (by decide) | exact zerosI _ | exact zerosN _ | exact OfRaw.rows (by omega) | exact Or.inl (And.intro rfl rfl) | refine And.intro ?_ ?_ | refine Exists.intro _ (Exists.intro _ (And.intro rfl (And.intro (by decide) ?_))))) rfl rfl rfl rfl rfl ?_
  refine Rn.fin0 zB 1000 rfl rfl rfl rfl ?_
  unfold enV
  rw [enL_ok e0, e0]
  unfold enB
  rw [maxOf_eq (push_max B hvb L.e hPu)]
theorem c_renough (rs : List Rt) (ss : List Su) (po : List Po) (vs : List Int) (f1 f2 f3 f4 : Bool) (h1 : rs.length < 90000000000) (h2 : ss.length < 90000000000) (h3 : po.length < 90000000000) : Ct0 envB 19 [shA rs.length ss.length po.length f1 f2 f3, slA 3 0 vs.length f4 1] (shV rs ss po vs) 4 (enV rs ss po vs) := by
  refine Ct.of zB (fn := Tryz.f19) (by kernel_rfl) (by kernel_rfl) rfl rfl ?_
  refine Rn.call0 zB 1000 rfl (c_volumes rs ss po vs f1 f2 f3 f4 h1 h2 h3) [some 0, some 1, some 2, some 3] rfl rfl (by (repeat' first | exact trivial | exact rfl | exact Or.inl (And.intro rfl rfl) | exact wsucc _ (by omega) | exact wlin (by first | omega | (push_cast; omega)) (by omega) | exact wint (by omega) (by omega) | refine And.intro ?_ ?_ | refine Or.inr ?_)) (by (repeat' first | exact trivial | exact rfl | exact (by decide) | exact zerosI _ | exact zerosN _ | exact OfRaw.rows (by omega) | exact Or.inl (And.intro rfl rfl) | refine And.intro ?_ ?_ | refine Exists.intro _ (Exists.intro _ (And.intro rfl (And.intro (by decide) ?_))))) rfl rfl rfl rfl rfl ?_
  refine Rn.split zB 1000 rfl (fun e0 => ?_) (fun e0 => ?_)
  · refine Rn.fin0 zB 1000 rfl rfl rfl rfl ?_
    unfold enV
    rw [enL_bad (by simpa using e0)]
  have e0 : wErr rs ss po vs = 0 := by simpa using e0
  obtain ⟨hok, hvo⟩ := wErr_zero e0
  have B := hok.b
  have hvb := hvo.bound B
  have hl := hvo.len
  have nr := B.nr
  have c := c_taken rs ss po f1 f2 f3 f4 vs B hl hvb
  rw [hl]
  refine Rn.call zB 1000 rfl (c) [some 0, some 1, some 2, some 3] rfl (by (repeat' first | exact trivial | exact rfl | exact Or.inl (And.intro rfl rfl) | exact wsucc _ (by omega) | exact wlin (by first | omega | (push_cast; omega)) (by omega) | exact wint (by omega) (by omega) | refine And.intro ?_ ?_ | refine Or.inr ?_)) (by (repeat' first | exact trivial | exact rfl | exact (by decide) | exact zerosI _ | exact zerosN _ | exact OfRaw.rows (by omega) | exact Or.inl (And.intro rfl rfl) | refine And.intro ?_ ?_ | refine Exists.intro _ (Exists.intro _ (And.intro rfl (And.intro (by decide) ?_))))) rfl rfl rfl ?_
  rintro ⟨s, hs⟩
  refine ⟨_, _, rfl, ?_⟩
  have cs := c_rsum vs f4 (by omega)
  rw [hl] at cs
  refine Rn.call0 zB 1000 rfl (cs) [some 3] rfl rfl (by (repeat' first | exact trivial | exact rfl | exact Or.inl (And.intro rfl rfl) | exact wsucc _ (by omega) | exact wlin (by first | omega | (push_cast; omega)) (by omega) | exact wint (by omega) (by omega) | refine And.intro ?_ ?_ | refine Or.inr ?_)) (by (repeat' first | exact trivial | exact rfl | exact (by decide) | exact zerosI _ | exact zerosN _ | exact OfRaw.rows (by omega) | exact Or.inl (And.intro rfl rfl) | refine And.intro ?_ ?_ | refine Exists.intro _ (Exists.intro _ (And.intro rfl (And.intro (by decide) ?_))))) rfl rfl rfl rfl rfl ?_
  refine Rn.fin0 zB 1000 rfl rfl rfl rfl ?_
  unfold enV
  rw [enL_ok e0, e0]
  unfold enB
  rw [maxOf_eq hs]

open Classical in
/-- What is promised, as a list. -/
noncomputable def promL (rs : List Rt) (ss : List Su) (po : List Po) : List Int := if ShareOK rs ss po then (if h : ∃ p, PromRes rs ss po p then Classical.choose h else []) else []
theorem PromRes.unique {rs : List Rt} {ss : List Su} {po : List Po} {p q : List Int} (h : PromRes rs ss po p) (h' : PromRes rs ss po q) : p = q := by
  apply List.ext_getElem?
  intro k
  by_cases hk : k < rs.length
  · have := h.prom.unique h'.prom k hk
    rw [List.getD_eq_getElem?_getD, List.getD_eq_getElem?_getD, List.getElem?_eq_getElem (by rw [h.len]; exact hk), List.getElem?_eq_getElem (by rw [h'.len]; exact hk)] at this
    rw [List.getElem?_eq_getElem (by rw [h.len]; exact hk), List.getElem?_eq_getElem (by rw [h'.len]; exact hk)]
    exact congrArg some this
  · rw [List.getElem?_eq_none (by rw [h.len]; omega), List.getElem?_eq_none (by rw [h'.len]; omega)]
theorem promL_bad {rs : List Rt} {ss : List Su} {po : List Po} (h : ¬ ShareOK rs ss po) : promL rs ss po = [] := if_neg h
theorem promL_ok {rs : List Rt} {ss : List Su} {po : List Po} (h : ShareOK rs ss po) {p : List Int} (hp : PromRes rs ss po p) : promL rs ss po = p := by
  unfold promL
  rw [if_pos h, dif_pos ⟨p, hp⟩]
  exact (Classical.choose_spec (⟨p, hp⟩ : ∃ p, PromRes rs ss po p)).unique hp
/-- What Promise answers. -/
noncomputable def prV (b : Bool) (rs : List Rt) (ss : List Su) (po : List Po) (_ : Unit) : AV := .tup [(false, [.sl (some (3, 0)) (promL rs ss po).length b 1]), (false, [.int .i64 (shErr rs ss po)])]
noncomputable def prB (rs : List Rt) (ss : List Su) (po : List Po) (_ : Unit) : BL := [⟨3, true, none, .raw (arr iC (promL rs ss po))⟩]
theorem c_promise (rs : List Rt) (ss : List Su) (po : List Po) (f1 f2 f3 : Bool) (h1 : rs.length < 90000000000) (h2 : ss.length < 90000000000) (h3 : po.length < 90000000000) : Ct envB 33 [shA rs.length ss.length po.length f1 f2 f3] (shB rs ss po) 3 { _u : Unit // shErr rs ss po = 0 → PromRes rs ss po (promL rs ss po) } (fun _ => prV true rs ss po ()) (fun _ => prB rs ss po ()) (fun _ => 4) := by
  refine Ct.of zB (fn := Tryz.f33) (by kernel_rfl) (by kernel_rfl) rfl rfl ?_
  refine Rn.call0 zB 1000 rfl (c_checkShare rs ss po f1 f2 f3 h1 h2 h3) [some 0, some 1, some 2] rfl rfl (by (repeat' first | exact trivial | exact rfl | exact Or.inl (And.intro rfl rfl) | exact wsucc _ (by omega) | exact wlin (by first | omega | (push_cast; omega)) (by omega) | exact wint (by omega) (by omega) | refine And.intro ?_ ?_ | refine Or.inr ?_)) (by (repeat' first | exact trivial | exact rfl | exact (by decide) | exact zerosI _ | exact zerosN _ | exact OfRaw.rows (by omega) | exact Or.inl (And.intro rfl rfl) | refine And.intro ?_ ?_ | refine Exists.intro _ (Exists.intro _ (And.intro rfl (And.intro (by decide) ?_))))) rfl rfl rfl rfl rfl ?_
  refine Rn.split zB 1000 rfl (fun e0 => ?_) (fun e0 => ?_)
  · unfold prV prB
    have e0 : shErr rs ss po ≠ 0 := by simpa using e0
    rw [promL_bad fun c => e0 (shErr_ok c)]
    refine Rn.fin zB 1000 rfl rfl rfl ⟨(), fun c => absurd c e0⟩ [some 0, some 1, some 2, none] rfl rfl ?_ ?_ rfl rfl rfl
    · (repeat' first | exact trivial | exact rfl | exact Or.inl (And.intro rfl rfl) | exact wsucc _ (by omega) | exact wlin (by first | omega | (push_cast; omega)) (by omega) | exact wint (by omega) (by omega) | refine And.intro ?_ ?_ | refine Or.inr ?_)
    · (repeat' first | exact trivial | exact rfl | exact (by decide) | exact zerosI _ | exact zerosN _ | exact OfRaw.rows (by omega) | exact Or.inl (And.intro rfl rfl) | refine And.intro ?_ ?_ | refine Exists.intro _ (Exists.intro _ (And.intro rfl (And.intro (by decide) ?_))))
  have e0 : shErr rs ss po = 0 := by simpa using e0
  have hok := shErr_zero e0
  have c := c_promised rs ss po f1 f2 f3 hok.b
  refine Rn.call zB 1000 rfl (c) [some 0, some 1, some 2] rfl (by (repeat' first | exact trivial | exact rfl | exact Or.inl (And.intro rfl rfl) | exact wsucc _ (by omega) | exact wlin (by first | omega | (push_cast; omega)) (by omega) | exact wint (by omega) (by omega) | refine And.intro ?_ ?_ | refine Or.inr ?_)) (by (repeat' first | exact trivial | exact rfl | exact (by decide) | exact zerosI _ | exact zerosN _ | exact OfRaw.rows (by omega) | exact Or.inl (And.intro rfl rfl) | refine And.intro ?_ ?_ | refine Exists.intro _ (Exists.intro _ (And.intro rfl (And.intro (by decide) ?_))))) rfl rfl rfl ?_
  rintro ⟨p, hp⟩
  refine ⟨_, _, rfl, ?_⟩
  have hpl := promL_ok hok hp
  unfold prV prB
  rw [e0]
  have hl := hp.len
  have hp' := hp
  rw [← hpl] at hl hp'
  rw [hl, hpl]
  refine Rn.fin zB 1000 rfl rfl rfl ⟨(), fun _ => hp⟩ [some 0, some 1, some 2, some 4] rfl rfl ?_ ?_ rfl rfl rfl
  · (repeat' first | exact trivial | exact rfl | exact Or.inl (And.intro rfl rfl) | exact wsucc _ (by omega) | exact wlin (by first | omega | (push_cast; omega)) (by omega) | exact wint (by omega) (by omega) | refine And.intro ?_ ?_ | refine Or.inr ?_)
  · (repeat' first | exact trivial | exact rfl | exact (by decide) | exact zerosI _ | exact zerosN _ | exact OfRaw.rows (by omega) | exact Or.inl (And.intro rfl rfl) | refine And.intro ?_ ?_ | refine Exists.intro _ (Exists.intro _ (And.intro rfl (And.intro (by decide) ?_))))
theorem c_rpromise (rs : List Rt) (ss : List Su) (po : List Po) (f1 f2 f3 : Bool) (h1 : rs.length < 90000000000) (h2 : ss.length < 90000000000) (h3 : po.length < 90000000000) (hP : shErr rs ss po = 0 → PromRes rs ss po (promL rs ss po)) : Ct envB 41 [shA rs.length ss.length po.length f1 f2 f3] (shB rs ss po) 3 Unit (prV false rs ss po) (prB rs ss po) (fun _ => 4) := by
  refine Ct.of zB (fn := Tryz.f41) (by kernel_rfl) (by kernel_rfl) rfl rfl ?_
  refine Rn.call0 zB 1000 rfl (c_rcheckShare rs ss po f1 f2 f3 h1 h2 h3) [some 0, some 1, some 2] rfl rfl (by (repeat' first | exact trivial | exact rfl | exact Or.inl (And.intro rfl rfl) | exact wsucc _ (by omega) | exact wlin (by first | omega | (push_cast; omega)) (by omega) | exact wint (by omega) (by omega) | refine And.intro ?_ ?_ | refine Or.inr ?_)) (by (repeat' first | exact trivial | exact rfl | exact (by decide) | exact zerosI _ | exact zerosN _ | exact OfRaw.rows (by omega) | exact Or.inl (And.intro rfl rfl) | refine And.intro ?_ ?_ | refine Exists.intro _ (Exists.intro _ (And.intro rfl (And.intro (by decide) ?_))))) rfl rfl rfl rfl rfl ?_
  refine Rn.split zB 1000 rfl (fun e0 => ?_) (fun e0 => ?_)
  · unfold prV prB
    have e0 : shErr rs ss po ≠ 0 := by simpa using e0
    rw [promL_bad fun c => e0 (shErr_ok c)]
    refine Rn.fin zB 1000 rfl rfl rfl () [some 0, some 1, some 2, none] rfl rfl ?_ ?_ rfl rfl rfl
    · (repeat' first | exact trivial | exact rfl | exact Or.inl (And.intro rfl rfl) | exact wsucc _ (by omega) | exact wlin (by first | omega | (push_cast; omega)) (by omega) | exact wint (by omega) (by omega) | refine And.intro ?_ ?_ | refine Or.inr ?_)
    · (repeat' first | exact trivial | exact rfl | exact (by decide) | exact zerosI _ | exact zerosN _ | exact OfRaw.rows (by omega) | exact Or.inl (And.intro rfl rfl) | refine And.intro ?_ ?_ | refine Exists.intro _ (Exists.intro _ (And.intro rfl (And.intro (by decide) ?_))))
  have e0 : shErr rs ss po = 0 := by simpa using e0
  have hok := shErr_zero e0
  have c := c_rpromised rs ss po f1 f2 f3 hok.b _ (hP e0)
  refine Rn.call zB 1000 rfl (c) [some 0, some 1, some 2] rfl (by (repeat' first | exact trivial | exact rfl | exact Or.inl (And.intro rfl rfl) | exact wsucc _ (by omega) | exact wlin (by first | omega | (push_cast; omega)) (by omega) | exact wint (by omega) (by omega) | refine And.intro ?_ ?_ | refine Or.inr ?_)) (by (repeat' first | exact trivial | exact rfl | exact (by decide) | exact zerosI _ | exact zerosN _ | exact OfRaw.rows (by omega) | exact Or.inl (And.intro rfl rfl) | refine And.intro ?_ ?_ | refine Exists.intro _ (Exists.intro _ (And.intro rfl (And.intro (by decide) ?_))))) rfl rfl rfl (fun _ => ⟨_, _, rfl, ?_⟩)
  unfold prV prB
  rw [e0, (hP e0).len]
  refine Rn.fin zB 1000 rfl rfl rfl () [some 0, some 1, some 2, some 4] rfl rfl ?_ ?_ rfl rfl rfl
  · (repeat' first | exact trivial | exact rfl | exact Or.inl (And.intro rfl rfl) | exact wsucc _ (by omega) | exact wlin (by first | omega | (push_cast; omega)) (by omega) | exact wint (by omega) (by omega) | refine And.intro ?_ ?_ | refine Or.inr ?_)
  · (repeat' first | exact trivial | exact rfl | exact (by decide) | exact zerosI _ | exact zerosN _ | exact OfRaw.rows (by omega) | exact Or.inl (And.intro rfl rfl) | refine And.intro ?_ ?_ | refine Exists.intro _ (Exists.intro _ (And.intro rfl (And.intro (by decide) ?_))))
/-! ### Short -/
def shortP (rs : List Rt) (p : List Int) (i : Nat) : Bool := decide (p.getD i 0 < claimOf rs i)
def shortN (rs : List Rt) (p : List Int) (n : Nat) : List Nat := (List.range n).filter (shortP rs p)
theorem shortN_len (rs : List Rt) (p : List Int) (n : Nat) : (shortN rs p n).length ≤ n := by
  have := List.length_filter_le (shortP rs p) (List.range n)
  rw [List.length_range] at this
  exact this
noncomputable def shoL (rs : List Rt) (ss : List Su) (po : List Po) : List Nat := if shErr rs ss po = 0 then shortN rs (promL rs ss po) rs.length else []
theorem shoL_bad {rs : List Rt} {ss : List Su} {po : List Po} (h : shErr rs ss po ≠ 0) : shoL rs ss po = [] := if_neg h
theorem shoL_ok {rs : List Rt} {ss : List Su} {po : List Po} (h : shErr rs ss po = 0) : shoL rs ss po = shortN rs (promL rs ss po) rs.length := if_pos h
noncomputable def shV2 (rs : List Rt) (ss : List Su) (po : List Po) (_ : Unit) : AV := .tup [(false, [.sl (some (3, 0)) (shoL rs ss po).length false 1]), (false, [.int .i64 (shErr rs ss po)])]
noncomputable def shB2 (rs : List Rt) (ss : List Su) (po : List Po) (_ : Unit) : BL := [⟨3, true, none, .raw (arr nC (shoL rs ss po))⟩]
theorem c_short (rs : List Rt) (ss : List Su) (po : List Po) (f1 f2 f3 : Bool) (h1 : rs.length < 90000000000) (h2 : ss.length < 90000000000) (h3 : po.length < 90000000000) : Ct envB 42 [shA rs.length ss.length po.length f1 f2 f3] (shB rs ss po) 3 Unit (shV2 rs ss po) (shB2 rs ss po) (fun _ => 4) := by
  refine Ct.of zB (fn := Tryz.f42) (by kernel_rfl) (by kernel_rfl) rfl rfl ?_
  refine Rn.call0 zB 1000 rfl (c_checkShare rs ss po f1 f2 f3 h1 h2 h3) [some 0, some 1, some 2] rfl rfl (by (repeat' first | exact trivial | exact rfl | exact Or.inl (And.intro rfl rfl) | exact wsucc _ (by omega) | exact wlin (by first | omega | (push_cast; omega)) (by omega) | exact wint (by omega) (by omega) | refine And.intro ?_ ?_ | refine Or.inr ?_)) (by (repeat' first | exact trivial | exact rfl | exact (by decide) | exact zerosI _ | exact zerosN _ | exact OfRaw.rows (by omega) | exact Or.inl (And.intro rfl rfl) | refine And.intro ?_ ?_ | refine Exists.intro _ (Exists.intro _ (And.intro rfl (And.intro (by decide) ?_))))) rfl rfl rfl rfl rfl ?_
  refine Rn.split zB 1000 rfl (fun e0 => ?_) (fun e0 => ?_)
  · unfold shV2 shB2
    have e0 : shErr rs ss po ≠ 0 := by simpa using e0
    rw [shoL_bad e0]
    refine Rn.fin zB 1000 rfl rfl rfl () [some 0, some 1, some 2, none] rfl rfl ?_ ?_ rfl rfl rfl
    · (repeat' first | exact trivial | exact rfl | exact Or.inl (And.intro rfl rfl) | exact wsucc _ (by omega) | exact wlin (by first | omega | (push_cast; omega)) (by omega) | exact wint (by omega) (by omega) | refine And.intro ?_ ?_ | refine Or.inr ?_)
    · (repeat' first | exact trivial | exact rfl | exact (by decide) | exact zerosI _ | exact zerosN _ | exact OfRaw.rows (by omega) | exact Or.inl (And.intro rfl rfl) | refine And.intro ?_ ?_ | refine Exists.intro _ (Exists.intro _ (And.intro rfl (And.intro (by decide) ?_))))
  have e0 : shErr rs ss po = 0 := by simpa using e0
  have hok := shErr_zero e0
  have nr := hok.nr
  have c := c_promised rs ss po f1 f2 f3 hok.b
  refine Rn.call zB 1000 rfl (c) [some 0, some 1, some 2] rfl (by (repeat' first | exact trivial | exact rfl | exact Or.inl (And.intro rfl rfl) | exact wsucc _ (by omega) | exact wlin (by first | omega | (push_cast; omega)) (by omega) | exact wint (by omega) (by omega) | refine And.intro ?_ ?_ | refine Or.inr ?_)) (by (repeat' first | exact trivial | exact rfl | exact (by decide) | exact zerosI _ | exact zerosN _ | exact OfRaw.rows (by omega) | exact Or.inl (And.intro rfl rfl) | refine And.intro ?_ ?_ | refine Exists.intro _ (Exists.intro _ (And.intro rfl (And.intro (by decide) ?_))))) rfl rfl rfl ?_
  rintro ⟨p, hp⟩
  refine ⟨_, _, rfl, ?_⟩
  have hpl := promL_ok hok hp
  have hl := hp.len
  have hk : ∀ n, n ≤ rs.length → (shortN rs p n).length ≤ 32 := fun n hn => by have := shortN_len rs p n; omega
  refine Rn.loop zB 1000 rfl (T := Nat) (fun i => rs.length - i) (fun i => i ≤ rs.length) (fun i => [(16, iA i), (15, iA rs.length), (14, slA 4 0 rs.length true 1), (5, slA 5 0 (shortN rs p i).length false 1), (1, .one (.ptr (some (3, 0))))]) (fun i => ⟨4, true, none, .raw (arr iC p)⟩ :: ⟨5, true, none, .raw (arr nC (shortN rs p i))⟩ :: shC rs ss po f1 f2 f3) (fun _ => 6) (0) [some 0, some 1, some 2, some 3, some 4, none] (Nat.zero_le _) ⟨rfl, rfl, rfl, rfl, rfl, by (repeat' first | exact trivial | exact rfl | exact Or.inl (And.intro rfl rfl) | exact wsucc _ (by omega) | exact wlin (by first | omega | (push_cast; omega)) (by omega) | exact wint (by omega) (by omega) | refine And.intro ?_ ?_ | refine Or.inr ?_), by (repeat' first | exact trivial | exact rfl | exact (by decide) | exact zerosI _ | exact zerosN _ | exact OfRaw.rows (by omega) | exact Or.inl (And.intro rfl rfl) | refine And.intro ?_ ?_ | refine Exists.intro _ (Exists.intro _ (And.intro rfl (And.intro (by decide) ?_))))⟩ ?_
  rintro i hi
  refine Rn.split zB 1000 rfl (fun hlt => ?_) (fun hlt => ?_)
  · have hlt : i < rs.length := by simpa using hlt
    have hki := hk i hi
    obtain ⟨r, hr⟩ : ∃ r, rs[i]? = some r := ⟨rs[i], List.getElem?_eq_getElem hlt⟩
    obtain ⟨x, hx⟩ : ∃ r, p[i]? = some r := ⟨p[i]'(by omega), List.getElem?_eq_getElem _⟩
    have hs : shortP rs p i = decide (x < r.claim) := by unfold shortP claimOf; rw [List.getD_eq_getElem?_getD, hx, hr]; rfl
    refine Rn.ask zB 1000 rfl ⟨by first | omega | (dsimp only; omega), by first | omega | (dsimp only; omega)⟩ ?_
    refine Rn.loadR zB 1000 rfl (LoadR.fld eI (f := 0) (v := .int .i64 x) hx (by simp) rfl rfl) ?_
    refine Rn.ask zB 1000 rfl ⟨by omega, by omega⟩ ?_
    refine Rn.loadR zB 1000 rfl (LoadR.fld eRt (f := 6) (v := .int .i64 r.claim) hr (by simp) rfl rfl) ?_
    refine Rn.split zB 1000 rfl (fun hc => ?_) (fun hc => ?_)
    · have e : shortN rs p (i + 1) = shortN rs p i ++ [i] := range_filter_t _ (by rw [hs]; exact hc)
      have el : (shortN rs p (i + 1)).length = (shortN rs p i).length + 1 := by rw [e]; simp
      refine Rn.appN zB 1000 rfl (arr nC (shortN rs p (i + 1))) (Src.raw rfl rfl (cells_all eN _)) (Src.ex rfl rfl rfl (cells_one eN i)) ((by rw [e]; exact (arr_append _ _).symm)) rfl ((shortN rs p (i + 1)).length) (by first | rfl | omega | (simp; done) | (simp; omega)) (by omega) rfl (by omega) rfl rfl ?_
      refine Rn.again zB 1000 rfl (i + 1) [some 0, some 1, some 2, some 3, some 4, some 7] (by omega) (hlt) ⟨rfl, rfl, rfl, rfl, rfl, by (repeat' first | exact trivial | exact rfl | exact Or.inl (And.intro rfl rfl) | exact wsucc _ (by omega) | exact wlin (by first | omega | (push_cast; omega)) (by omega) | exact wint (by omega) (by omega) | refine And.intro ?_ ?_ | refine Or.inr ?_), by (repeat' first | exact trivial | exact rfl | exact (by decide) | exact zerosI _ | exact zerosN _ | exact OfRaw.rows (by omega) | exact Or.inl (And.intro rfl rfl) | refine And.intro ?_ ?_ | refine Exists.intro _ (Exists.intro _ (And.intro rfl (And.intro (by decide) ?_))))⟩
    · have e : shortN rs p (i + 1) = shortN rs p i := range_filter_f _ (by rw [hs]; exact hc)
      rw [← e]
      refine Rn.again zB 1000 rfl (i + 1) [some 0, some 1, some 2, some 3, some 4, some 5] (by omega) (hlt) ⟨rfl, rfl, rfl, rfl, rfl, by (repeat' first | exact trivial | exact rfl | exact Or.inl (And.intro rfl rfl) | exact wsucc _ (by omega) | exact wlin (by first | omega | (push_cast; omega)) (by omega) | exact wint (by omega) (by omega) | refine And.intro ?_ ?_ | refine Or.inr ?_), by (repeat' first | exact trivial | exact rfl | exact (by decide) | exact zerosI _ | exact zerosN _ | exact OfRaw.rows (by omega) | exact Or.inl (And.intro rfl rfl) | refine And.intro ?_ ?_ | refine Exists.intro _ (Exists.intro _ (And.intro rfl (And.intro (by decide) ?_))))⟩
  · have hi2 : i = rs.length := by simp at hlt; omega
    subst hi2
    refine Rn.out zB 1000 rfl rfl ?_
    unfold shV2 shB2
    rw [e0, shoL_ok e0, hpl]
    refine Rn.fin zB 1000 rfl rfl rfl () [some 0, some 1, some 2, some 5] rfl rfl ?_ ?_ rfl rfl rfl
    · (repeat' first | exact trivial | exact rfl | exact Or.inl (And.intro rfl rfl) | exact wsucc _ (by omega) | exact wlin (by first | omega | (push_cast; omega)) (by omega) | exact wint (by omega) (by omega) | refine And.intro ?_ ?_ | refine Or.inr ?_)
    · (repeat' first | exact trivial | exact rfl | exact (by decide) | exact zerosI _ | exact zerosN _ | exact OfRaw.rows (by omega) | exact Or.inl (And.intro rfl rfl) | refine And.intro ?_ ?_ | refine Exists.intro _ (Exists.intro _ (And.intro rfl (And.intro (by decide) ?_))))
theorem c_rshort (rs : List Rt) (ss : List Su) (po : List Po) (f1 f2 f3 : Bool) (h1 : rs.length < 90000000000) (h2 : ss.length < 90000000000) (h3 : po.length < 90000000000) (hP : shErr rs ss po = 0 → PromRes rs ss po (promL rs ss po)) : Ct envB 43 [shA rs.length ss.length po.length f1 f2 f3] (shB rs ss po) 3 Unit (shV2 rs ss po) (shB2 rs ss po) (fun _ => 4) := by
  refine Ct.of zB (fn := Tryz.f43) (by kernel_rfl) (by kernel_rfl) rfl rfl ?_
  refine Rn.call zB 1000 rfl (c_rpromise rs ss po f1 f2 f3 h1 h2 h3 hP) [some 0, some 1, some 2] rfl (by (repeat' first | exact trivial | exact rfl | exact Or.inl (And.intro rfl rfl) | exact wsucc _ (by omega) | exact wlin (by first | omega | (push_cast; omega)) (by omega) | exact wint (by omega) (by omega) | refine And.intro ?_ ?_ | refine Or.inr ?_)) (by (repeat' first | exact trivial | exact rfl | exact (by decide) | exact zerosI _ | exact zerosN _ | exact OfRaw.rows (by omega) | exact Or.inl (And.intro rfl rfl) | refine And.intro ?_ ?_ | refine Exists.intro _ (Exists.intro _ (And.intro rfl (And.intro (by decide) ?_))))) rfl rfl rfl (fun _ => ⟨_, _, rfl, ?_⟩)
  refine Rn.split zB 1000 rfl (fun e0 => ?_) (fun e0 => ?_)
  · unfold shV2 shB2
    have e0 : shErr rs ss po ≠ 0 := by simpa using e0
    rw [shoL_bad e0]
    refine Rn.fin zB 1000 rfl rfl rfl () [some 0, some 1, some 2, none] rfl rfl ?_ ?_ rfl rfl rfl
    · (repeat' first | exact trivial | exact rfl | exact Or.inl (And.intro rfl rfl) | exact wsucc _ (by omega) | exact wlin (by first | omega | (push_cast; omega)) (by omega) | exact wint (by omega) (by omega) | refine And.intro ?_ ?_ | refine Or.inr ?_)
    · (repeat' first | exact trivial | exact rfl | exact (by decide) | exact zerosI _ | exact zerosN _ | exact OfRaw.rows (by omega) | exact Or.inl (And.intro rfl rfl) | refine And.intro ?_ ?_ | refine Exists.intro _ (Exists.intro _ (And.intro rfl (And.intro (by decide) ?_))))
  have e0 : shErr rs ss po = 0 := by simpa using e0
  have hok := shErr_zero e0
  have nr := hok.nr
  have hl := (hP e0).len
  obtain ⟨p, hpp⟩ : ∃ p, p = promL rs ss po := ⟨_, rfl⟩
  rw [← hpp] at hl
  rw [← hpp, hl]
  have hk : ∀ n, n ≤ rs.length → (shortN rs p n).length ≤ 32 := fun n hn => by have := shortN_len rs p n; omega
  refine Rn.loop zB 1000 rfl (T := Nat) (fun i => rs.length - i) (fun i => i ≤ rs.length) (fun i => [(7, iA i), (6, slA 5 0 (shortN rs p i).length false 1), (4, slA 4 0 rs.length false 1), (1, .one (.ptr (some (3, 0))))]) (fun i => ⟨4, true, none, .raw (arr iC p)⟩ :: ⟨5, true, none, .raw (arr nC (shortN rs p i))⟩ :: shC rs ss po f1 f2 f3) (fun _ => 6) (0) [some 0, some 1, some 2, some 3, some 4, none] (Nat.zero_le _) ⟨rfl, rfl, rfl, rfl, rfl, by (repeat' first | exact trivial | exact rfl | exact Or.inl (And.intro rfl rfl) | exact wsucc _ (by omega) | exact wlin (by first | omega | (push_cast; omega)) (by omega) | exact wint (by omega) (by omega) | refine And.intro ?_ ?_ | refine Or.inr ?_), by (repeat' first | exact trivial | exact rfl | exact (by decide) | exact zerosI _ | exact zerosN _ | exact OfRaw.rows (by omega) | exact Or.inl (And.intro rfl rfl) | refine And.intro ?_ ?_ | refine Exists.intro _ (Exists.intro _ (And.intro rfl (And.intro (by decide) ?_))))⟩ ?_
  rintro i hi
  refine Rn.split zB 1000 rfl (fun hlt => ?_) (fun hlt => ?_)
  · have hlt : i < rs.length := by simpa using hlt
    have hki := hk i hi
    obtain ⟨r, hr⟩ : ∃ r, rs[i]? = some r := ⟨rs[i], List.getElem?_eq_getElem hlt⟩
    obtain ⟨x, hx⟩ : ∃ r, p[i]? = some r := ⟨p[i]'(by omega), List.getElem?_eq_getElem _⟩
    have hs : shortP rs p i = decide (x < r.claim) := by unfold shortP claimOf; rw [List.getD_eq_getElem?_getD, hx, hr]; rfl
    refine Rn.draw zB 1000 [0, 0, 3, 7, 0, 16, 0, 112, 240, 496, 1023] rfl (by kernel_rfl) (by kernel_rfl) ?_
    refine Rn.ask zB 1000 rfl ⟨by omega, by omega⟩ ?_
    refine Rn.loadR zB 1000 rfl (LoadR.fld eI (f := 0) (v := .int .i64 x) hx (by simp) rfl rfl) ?_
    refine Rn.ask zB 1000 rfl ⟨by omega, by omega⟩ ?_
    refine Rn.loadR zB 1000 rfl (LoadR.fld eRt (f := 6) (v := .int .i64 r.claim) hr (by simp) rfl rfl) ?_
    refine Rn.split zB 1000 rfl (fun hc => ?_) (fun hc => ?_)
    · have e : shortN rs p (i + 1) = shortN rs p i ++ [i] := range_filter_t _ (by rw [hs]; exact hc)
      have el : (shortN rs p (i + 1)).length = (shortN rs p i).length + 1 := by rw [e]; simp
      refine Rn.appN zB 1000 rfl (arr nC (shortN rs p (i + 1))) (Src.raw rfl rfl (cells_all eN _)) (Src.ex rfl rfl rfl (cells_one eN i)) ((by rw [e]; exact (arr_append _ _).symm)) rfl ((shortN rs p (i + 1)).length) (by first | rfl | omega | (simp; done) | (simp; omega)) (by omega) rfl (by omega) rfl rfl ?_
      refine Rn.again zB 1000 rfl (i + 1) [some 0, some 1, some 2, some 3, some 4, some 7] (by omega) (hlt) ⟨rfl, rfl, rfl, rfl, rfl, by (repeat' first | exact trivial | exact rfl | exact Or.inl (And.intro rfl rfl) | exact wsucc _ (by omega) | exact wlin (by first | omega | (push_cast; omega)) (by omega) | exact wint (by omega) (by omega) | refine And.intro ?_ ?_ | refine Or.inr ?_), by (repeat' first | exact trivial | exact rfl | exact (by decide) | exact zerosI _ | exact zerosN _ | exact OfRaw.rows (by omega) | exact Or.inl (And.intro rfl rfl) | refine And.intro ?_ ?_ | refine Exists.intro _ (Exists.intro _ (And.intro rfl (And.intro (by decide) ?_))))⟩
    · have e : shortN rs p (i + 1) = shortN rs p i := range_filter_f _ (by rw [hs]; exact hc)
      rw [← e]
      refine Rn.again zB 1000 rfl (i + 1) [some 0, some 1, some 2, some 3, some 4, some 5] (by omega) (hlt) ⟨rfl, rfl, rfl, rfl, rfl, by (repeat' first | exact trivial | exact rfl | exact Or.inl (And.intro rfl rfl) | exact wsucc _ (by omega) | exact wlin (by first | omega | (push_cast; omega)) (by omega) | exact wint (by omega) (by omega) | refine And.intro ?_ ?_ | refine Or.inr ?_), by (repeat' first | exact trivial | exact rfl | exact (by decide) | exact zerosI _ | exact zerosN _ | exact OfRaw.rows (by omega) | exact Or.inl (And.intro rfl rfl) | refine And.intro ?_ ?_ | refine Exists.intro _ (Exists.intro _ (And.intro rfl (And.intro (by decide) ?_))))⟩
  · have hi2 : i = rs.length := by simp at hlt; omega
    subst hi2
    refine Rn.out zB 1000 rfl rfl ?_
    unfold shV2 shB2
    rw [e0, shoL_ok e0, ← hpp]
    refine Rn.fin zB 1000 rfl rfl rfl () [some 0, some 1, some 2, some 5] rfl rfl ?_ ?_ rfl rfl rfl
    · (repeat' first | exact trivial | exact rfl | exact Or.inl (And.intro rfl rfl) | exact wsucc _ (by omega) | exact wlin (by first | omega | (push_cast; omega)) (by omega) | exact wint (by omega) (by omega) | refine And.intro ?_ ?_ | refine Or.inr ?_)
    · (repeat' first | exact trivial | exact rfl | exact (by decide) | exact zerosI _ | exact zerosN _ | exact OfRaw.rows (by omega) | exact Or.inl (And.intro rfl rfl) | refine And.intro ?_ ?_ | refine Exists.intro _ (Exists.intro _ (And.intro rfl (And.intro (by decide) ?_))))
end Go.AM
