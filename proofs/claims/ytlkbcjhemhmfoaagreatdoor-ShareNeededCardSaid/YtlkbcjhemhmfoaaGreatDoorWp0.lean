/- What lay lays is a share's pipes. -/
import Derived.Test.YtlkbcjhemhmfoaaGreatDoorWn5
set_option linter.unusedSimpArgs false
set_option linter.unusedVariables false
namespace Go.AM
open Go Go.Proofs
open Snow (Arc Pipe arcsOf Fits Small Pushed Inst)

/-- A share whose numbers are not too large. -/
structure ShB (rs : List Rt) (ss : List Su) (po : List Po) : Prop where
  nr : rs.length ≤ 32
  ns : ss.length ≤ 64
  np : po.length ≤ 64
  vol : ∀ x ∈ ss, 0 ≤ x.vol ∧ x.vol ≤ 70368744177664
  room : ∀ p ∈ po, 0 ≤ p.room ∧ p.room ≤ 1099511627776
  claim : ∀ r ∈ rs, 0 ≤ r.claim ∧ r.claim ≤ 1099511627776
def claimOf (rs : List Rt) (k : Nat) : Int := match rs[k]? with | some r => r.claim | none => 0

section
variable {rs : List Rt} {ss : List Su} {po : List Po}
theorem ShB.volOf (B : ShB rs ss po) (i : Nat) : 0 ≤ volOf ss i ∧ volOf ss i ≤ 70368744177664 := by
  unfold Go.AM.volOf
  split
  · rename_i s h; exact B.vol s (List.mem_of_getElem? h)
  · decide
theorem ShB.claimOf (B : ShB rs ss po) (k : Nat) : 0 ≤ claimOf rs k ∧ claimOf rs k ≤ 1099511627776 := by
  unfold Go.AM.claimOf
  split
  · rename_i s h; exact B.claim s (List.mem_of_getElem? h)
  · decide
theorem roomOf_bound : ∀ {po : List Po}, (∀ p ∈ po, 0 ≤ p.room ∧ p.room ≤ 1099511627776) → ∀ v, 0 ≤ roomOf po v ∧ roomOf po v ≤ 1099511627776
  | [], _, v => by unfold roomOf; decide
  | p :: po, h, v => by
    unfold roomOf
    split
    · exact h p List.mem_cons_self
    · exact roomOf_bound (fun q hq => h q (List.mem_cons_of_mem _ hq)) v
theorem ShB.roomI (B : ShB rs ss po) (i : Nat) : 0 ≤ (instOf rs ss po).room i ∧ (instOf rs ss po).room i ≤ 1099511627776 := by
  show 0 ≤ (if fol ss i then roomOf po (valOf ss i) else 0) ∧ _
  have := roomOf_bound B.room (valOf ss i)
  unfold instOf
  dsimp only
  split
  · exact this
  · decide

theorem layP_mem {v : Nat → Int} {K : Nat} {p : Pipe} (h : p ∈ layP rs ss po v K) : (∃ i, i < ss.length ∧ p = ⟨0, 2 + i, volOf ss i, 0⟩) ∨ (∃ i, i < ss.length ∧ p = ⟨1 + i, 2 + i, (instOf rs ss po).room i, 0⟩) ∨ (∃ i k, p = ⟨2 + i, 2 + ss.length + k, endless, 0⟩) ∨ ∃ k, k < K ∧ p = ⟨2 + ss.length + k, 1, v k, 0⟩ := by
  unfold layP at h
  simp only [List.mem_append, List.mem_flatMap, List.mem_range] at h
  rcases h with ⟨i, hi, h⟩ | ⟨k, hk, h⟩
  · unfold supP at h
    rcases List.mem_append.1 h with h | h
    · exact .inl ⟨i, hi, by simpa using h⟩
    · split at h
      · exact .inr (.inl ⟨i, hi, by simpa using h⟩)
      · cases h
  · unfold rtP drawP at h
    rcases List.mem_append.1 h with h | h
    · obtain ⟨i, _, rfl⟩ := List.mem_map.1 h
      exact .inr (.inr (.inl ⟨i, k, rfl⟩))
    · exact .inr (.inr (.inr ⟨k, hk, by simpa using h⟩))
theorem layP_now {v : Nat → Int} {K : Nat} {p : Pipe} (h : p ∈ layP rs ss po v K) : p.now = 0 := by
  rcases layP_mem h with ⟨_, _, rfl⟩ | ⟨_, _, rfl⟩ | ⟨_, _, rfl⟩ | ⟨_, _, rfl⟩ <;> rfl
theorem layP_most (B : ShB rs ss po) {v : Nat → Int} {K : Nat} (hv : ∀ k, k < K → 0 ≤ v k ∧ v k ≤ 1099511627776) {p : Pipe} (h : p ∈ layP rs ss po v K) : 0 ≤ p.most ∧ p.most ≤ 1152921504606846976 := by
  rcases layP_mem h with ⟨i, _, rfl⟩ | ⟨i, _, rfl⟩ | ⟨_, _, rfl⟩ | ⟨k, hk, rfl⟩
  · have := B.volOf i; dsimp only; omega
  · have := B.roomI i; dsimp only; omega
  · dsimp only [endless]; omega
  · have := hv k hk; dsimp only; omega
theorem S_le_mul {n : Nat} {f : Nat → Int} {b : Int} (h : ∀ i, i < n → f i ≤ b) : Snow.S n f ≤ n * b := by
  induction n with
  | zero => simp [Snow.S]
  | succ n ih =>
    have h1 := ih fun i hi => h i (by omega)
    have h2 := h n (by omega)
    simp only [Snow.S]
    have : ((n + 1 : Nat) : Int) * b = n * b + b := by rw [Int.natCast_succ, Int.add_mul, Int.one_mul]
    omega
theorem layP_cap (B : ShB rs ss po) {v : Nat → Int} : Snow.capOut (layP rs ss po v rs.length) ≤ 1152921504606846976 := by
  have e : Snow.capOut (layP rs ss po v rs.length) = Snow.S ss.length (volOf ss) := by
    unfold Snow.capOut layP
    rw [Snow.LS_append, Snow.LS_flatMap, Snow.LS_range, Snow.LS_flatMap, Snow.LS_range, Snow.S_eq_zero (n := rs.length) fun k _ => ?_, Int.add_zero]
    · refine Snow.S_congr fun i _ => ?_
      unfold supP
      rw [Snow.LS_append]
      split
      · simp [Snow.LS]
      · simp [Snow.LS]
    · unfold rtP drawP
      rw [Snow.LS_append, Snow.LS_map, Snow.LS_zero fun i _ => by rw [if_neg (by dsimp only; omega)]]
      simp [Snow.LS]
  rw [e]
  have h1 := S_le_mul (n := ss.length) (f := volOf ss) (b := 70368744177664) fun i _ => (B.volOf i).2
  have := B.ns
  omega
theorem layP_pipes (B : ShB rs ss po) {v : Nat → Int} (hv : ∀ k, k < rs.length → 0 ≤ v k ∧ v k ≤ 1099511627776) {out : List (List Nat)} (O : OutOK (2 + ss.length + rs.length) (layP rs ss po v rs.length) out) (hl : (layP rs ss po v rs.length).length ≤ 3000) : PipesOK (layP rs ss po v rs.length) out where
  net := by
    have hal := Snow.arcs_len (layP rs ss po v rs.length)
    have := B.nr
    have := B.ns
    have hol := O.len
    refine ⟨by omega, by omega, by omega, fun r hr => by have := O.rl r hr; omega, fun r hr k hk => ?_, fun a ha => ?_, fun a ha => ?_⟩
    · obtain ⟨u, hu⟩ := List.getElem?_of_mem hr
      obtain ⟨i, p, hp, hk⟩ := (O.rows u r hu k).1 hk
      have := (List.getElem?_eq_some_iff.mp hp).1
      rcases hk with ⟨h, _⟩ | ⟨h, _⟩ <;> omega
    · obtain ⟨k, hk⟩ := List.getElem?_of_mem ha
      obtain ⟨i, p, hp, h | h⟩ := Snow.arc_cases hk
      · rw [h.2, hol]; exact (O.ends p (List.mem_of_getElem? hp)).2
      · rw [h.2, hol]; exact (O.ends p (List.mem_of_getElem? hp)).1
    · obtain ⟨k, hk⟩ := List.getElem?_of_mem ha
      obtain ⟨i, p, hp, h | h⟩ := Snow.arc_cases hk
      · have := (List.getElem?_eq_some_iff.mp hp).1
        rw [h.2, hal]; dsimp only; omega
      · have := (List.getElem?_eq_some_iff.mp hp).1
        rw [h.2, hal]; dsimp only; omega
  fits p hp := by rw [layP_now hp]; exact ⟨Int.le_refl _, (layP_most B hv hp).1⟩
  small p hp := (layP_most B hv hp).2
  rows := O.rows
  ends p hp := by rw [O.len]; exact O.ends p hp
  net0 := by rw [show Snow.net (layP rs ss po v rs.length) 0 = 0 from Snow.LS_zero fun p hp => by rw [layP_now hp]; simp]; exact Int.le_refl _
  cap := layP_cap B
theorem layP_laid (B : ShB rs ss po) {v : Nat → Int} (hv : ∀ k, k < rs.length → 0 ≤ v k ∧ v k ≤ 1099511627776) {ends : List Nat} (hE : EndsOK ss.length v rs.length (layP rs ss po v rs.length) ends) : Snow.LaidE (instOf rs ss po) v endless ends (layP rs ss po v rs.length) where
  laid := Snow.our_laid (fun i _ => (B.roomI i).1) rfl (fun i _ h => by unfold instOf; dsimp only; rw [h]; rfl) (fun k hk => by have := hv k hk; unfold endless; omega)
  wide i k hi hk hw := by
    refine ⟨⟨2 + i, 2 + ss.length + k, endless, 0⟩, ?_, rfl, rfl, Int.le_refl _⟩
    unfold layP
    refine List.mem_append_right _ (List.mem_flatMap.2 ⟨k, List.mem_range.2 hk, ?_⟩)
    unfold rtP drawP
    refine List.mem_append_left _ (List.mem_map.2 ⟨i, List.mem_filter.2 ⟨List.mem_range.2 hi, hw⟩, rfl⟩)
  ends k hk := by
    obtain ⟨q, h1, h2⟩ := hE.2 k hk
    exact ⟨q, _, h1, h2, rfl, rfl, rfl⟩
  lE k hk := by have := hv k hk; unfold endless; omega
theorem layP_len (v : Nat → Int) (hr : rs.length ≤ 32) (hs : ss.length ≤ 64) : (layP rs ss po v rs.length).length ≤ 3000 := by
  have h1 : ∀ n, ((List.range n).flatMap (supP rs ss po)).length ≤ 2 * n := fun n => by
    induction n with
    | zero => simp
    | succ n ih =>
      rw [range_flat, List.length_append]
      have : (supP rs ss po n).length ≤ 2 := by unfold supP; split <;> simp
      omega
  have h2 : ∀ n, ((List.range n).flatMap (rtP rs ss v)).length ≤ n * 65 := fun n => by
    induction n with
    | zero => simp
    | succ n ih =>
      rw [range_flat, List.length_append]
      have : (rtP rs ss v n).length ≤ 65 := by
        unfold rtP drawP
        have := List.length_filter_le (fun i => winOf rs ss n i) (List.range ss.length)
        rw [List.length_range] at this
        simp; omega
      omega
  have a := h1 ss.length
  have b := h2 rs.length
  unfold layP
  rw [List.length_append]
  omega
end

theorem PipesOK.setMost {ps : List Pipe} {out : List (List Nat)} (P : PipesOK ps out) {j : Nat} {p : Pipe} (hp : ps[j]? = some p) (hf : p.fr ≠ 0) {x : Int} (hx : p.now ≤ x) (hx2 : x ≤ 1152921504606846976) : PipesOK (Snow.setMost ps j x) out where
  net := by
    have e := Snow.arcs_setMost hp x
    refine P.net.shape (by rw [e]; simp) fun k => ?_
    rw [e, List.getElem?_set]
    split
    · rename_i h
      subst h
      have h2 := Snow.arcs_even ps j
      rw [hp, Option.map_some] at h2
      rw [if_pos (List.getElem?_eq_some_iff.mp h2).1, h2]; rfl
    · rfl
  fits := Snow.setMost_fits P.fits hp hx
  small := Snow.setMost_small P.small hp hx2
  rows := Snow.setMost_rows P.rows hp x
  ends q hq := by
    rcases Snow.setMost_mem hp hq with e | e
    · subst e; exact P.ends p (List.mem_of_getElem? hp)
    · exact P.ends q e
  net0 := by rw [Snow.setMost_net hp]; exact P.net0
  cap := by
    have : Snow.capOut (Snow.setMost ps j x) = Snow.capOut ps := by
      unfold Snow.capOut
      rw [Snow.setMost_LS hp, if_neg hf, if_neg hf]; omega
    rw [this]; exact P.cap
theorem PipesOK.after {ps qs : List Pipe} {out : List (List Nat)} {t : Int} (P : PipesOK ps out) (h : Pushed ps t qs) : PipesOK qs out := by
  obtain ⟨h1, h2, h3, h4, h5, h6⟩ := P.pushed h
  refine ⟨h1, h.fits, h2, h3, h4, ?_, by rw [h.sent.like.capOut]; exact P.cap⟩
  have := h.sent.net 0
  rw [if_pos rfl, if_neg (by decide)] at this
  have := P.net0
  have := h.t0
  omega
theorem upd_getD {l : List Int} {k : Nat} (h : k < l.length) (t : Int) : Snow.upd (fun j => l.getD j 0) k t = fun j => (l.set k t).getD j 0 := by
  funext j
  show (if j = k then t else l.getD j 0) = (l.set k t).getD j 0
  rw [List.getD_eq_getElem?_getD, List.getD_eq_getElem?_getD, List.getElem?_set]
  by_cases e : j = k
  · subst e; rw [if_pos rfl, if_pos rfl, if_pos h]; rfl
  · rw [if_neg e, if_neg fun c => e c.symm]
end Go.AM
