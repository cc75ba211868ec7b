/- Walks: the specification's taken and promised. -/
import Derived.Test.YtlkbcjhemhmfoaaGreatDoorWq3
import Derived.Test.YtlkbcjhemhmfoaaGreatDoorWp1
set_option linter.unusedSimpArgs false
set_option linter.unusedVariables false
namespace Go.AM
open Go Go.Proofs
open Snow (Pipe Fits IsMax Laid)
set_option maxRecDepth 10000
set_option maxHeartbeats 1000000

section
variable {rs : List Rt} {ss : List Su} {po : List Po}
theorem rlayP_mem {v : Nat → Int} {p : Pipe} (h : p ∈ rlayP rs ss po v) : (∃ i, i < ss.length ∧ p = ⟨0, 1 + i, volOf ss i, 0⟩) ∨ (∃ i, i + 1 < ss.length ∧ p = ⟨1 + i, 1 + i + 1, (instOf rs ss po).room (i + 1), 0⟩) ∨ (∃ i k, i < ss.length ∧ k < rs.length ∧ p = ⟨1 + i, 1 + ss.length + k, v k, 0⟩) ∨ ∃ k, k < rs.length ∧ p = ⟨1 + ss.length + k, 1 + ss.length + rs.length, v k, 0⟩ := by
  rw [rlayP_eq] at h
  simp only [List.mem_append, List.mem_flatMap, List.mem_range, List.mem_map] at h
  rcases h with ⟨i, hi, h⟩ | ⟨k, hk, rfl⟩
  · unfold rsP rdP at h
    simp only [List.mem_append, List.mem_map, List.mem_filter, List.mem_range, List.mem_singleton] at h
    rcases h with (h | h) | ⟨k, ⟨hk, _⟩, rfl⟩
    · exact .inl ⟨i, hi, h⟩
    · split at h
      · rename_i hc
        exact .inr (.inl ⟨i, hc.1, by simpa using h⟩)
      · cases h
    · exact .inr (.inr (.inl ⟨i, k, hi, hk, rfl⟩))
  · exact .inr (.inr (.inr ⟨k, hk, rfl⟩))
theorem rlayP_now {v : Nat → Int} {p : Pipe} (h : p ∈ rlayP rs ss po v) : p.now = 0 := by
  rcases rlayP_mem h with ⟨_, _, rfl⟩ | ⟨_, _, rfl⟩ | ⟨_, _, _, _, rfl⟩ | ⟨_, _, rfl⟩ <;> rfl
theorem rlayP_most (B : ShB rs ss po) {v : Nat → Int} (hv : ∀ k, k < rs.length → 0 ≤ v k ∧ v k ≤ 1099511627776) {p : Pipe} (h : p ∈ rlayP rs ss po v) : 0 ≤ p.most ∧ p.most ≤ 1152921504606846976 := by
  rcases rlayP_mem h with ⟨i, _, rfl⟩ | ⟨i, _, rfl⟩ | ⟨_, k, _, hk, rfl⟩ | ⟨k, hk, rfl⟩
  · have := B.volOf i; dsimp only; omega
  · have := B.roomI (i + 1); dsimp only; omega
  · have := hv k hk; dsimp only; omega
  · have := hv k hk; dsimp only; omega
theorem rlayP_in {v : Nat → Int} {p : Pipe} (h : p ∈ rlayP rs ss po v) : p.fr < 2 + ss.length + rs.length ∧ p.to < 2 + ss.length + rs.length := by
  rcases rlayP_mem h with ⟨_, _, rfl⟩ | ⟨_, _, rfl⟩ | ⟨_, _, _, _, rfl⟩ | ⟨_, _, rfl⟩ <;> dsimp only <;> omega
theorem rlayP_len (v : Nat → Int) (hr : rs.length ≤ 32) (hs : ss.length ≤ 64) : (rlayP rs ss po v).length ≤ 3000 := by
  have h1 : ∀ n, ((List.range n).flatMap (rsP rs ss po v)).length ≤ 34 * n := fun n => by
    induction n with
    | zero => simp
    | succ n ih =>
      rw [range_flat, List.length_append]
      have : (rsP rs ss po v n).length ≤ 34 := by
        unfold rsP rdP
        have := List.length_filter_le (fun k => winOf rs ss k n) (List.range rs.length)
        rw [List.length_range] at this
        split <;> simp <;> omega
      omega
  have a := h1 ss.length
  rw [rlayP_eq, List.length_append, List.length_map, List.length_range]
  omega
theorem rlayP_cap (B : ShB rs ss po) {v : Nat → Int} : Snow.capOut (rlayP rs ss po v) ≤ 1152921504606846976 := by
  have e : Snow.capOut (rlayP rs ss po v) = Snow.S ss.length (volOf ss) := by
    unfold Snow.capOut
    rw [rlayP_eq, Snow.LS_append, Snow.LS_flatMap, Snow.LS_range, Snow.LS_map, Snow.LS_range, Snow.S_eq_zero (n := rs.length) fun k _ => by rw [if_neg (by dsimp only; omega)], Int.add_zero]
    refine Snow.S_congr fun i _ => ?_
    unfold rsP rdP
    rw [Snow.LS_append, Snow.LS_append, Snow.LS_map, Snow.LS_zero (l := List.filter _ _) fun k _ => by rw [if_neg (by dsimp only; omega)]]
    split <;> simp [Snow.LS]
  rw [e]
  have h1 := S_le_mul (n := ss.length) (f := volOf ss) (b := 70368744177664) fun i _ => (B.volOf i).2
  have := B.ns
  omega
theorem rlayP_laid (B : ShB rs ss po) (v : Nat → Int) : Laid (instOf rs ss po) 0 (1 + ss.length + rs.length) 1 v (rlayP rs ss po v) := Snow.ref_laid (fun i _ => (B.roomI i).1) fun i _ h => by unfold instOf; dsimp only; rw [h]; rfl
theorem flow_max (B : ShB rs ss po) {v : Nat → Int} {sum : Int} {qs : List Pipe} (F : FlowRes (rlayP rs ss po v) (2 + ss.length + rs.length) sum qs) : IsMax (instOf rs ss po) v sum := by
  have L := (rlayP_laid B v).alike F.sent.like
  have ht : 2 + ss.length + rs.length - 1 = 1 + ss.length + rs.length := by omega
  have hs := F.sent
  obtain ⟨R, hR⟩ := F.reach
  rw [ht] at hs hR
  have hz : ∀ u, Snow.net (rlayP rs ss po v) u = 0 := fun u => Snow.LS_zero fun p hp => by rw [rlayP_now hp]; simp
  have Fl : Snow.Flows 0 (1 + ss.length + rs.length) qs := ⟨fun x hx => (F.fits x hx).1, fun x hx => (F.fits x hx).2, fun u h1 h2 => by rw [hs.net, hz, if_neg (fun c => h1 c.symm), if_neg (fun c => h2 c.symm)]; rfl⟩
  have hv := L.value Fl
  have hn := hs.net (1 + ss.length + rs.length)
  rw [hz, if_neg (by omega), if_pos rfl] at hn
  have e : sum = Snow.S (instOf rs ss po).m ((Snow.flOf (instOf rs ss po) 0 1 qs).took (instOf rs ss po)) := by omega
  rw [e]
  exact L.isMax Fl hR
end

theorem c_taken (rs : List Rt) (ss : List Su) (po : List Po) (f1 f2 f3 fv : Bool) (vs : List Int) (B : ShB rs ss po) (hv : vs.length = rs.length) (hvb : ∀ k, k < rs.length → 0 ≤ vOf vs k ∧ vOf vs k ≤ 1099511627776) :
    Ct envB 68 [shA rs.length ss.length po.length f1 f2 f3, slA 3 0 rs.length fv 1] (shB rs ss po ++ [⟨3, false, none, .raw (arr iC vs)⟩]) 4 { s : Int // IsMax (instOf rs ss po) (vOf vs) s } (fun a => iA a.1) (fun _ => []) (fun _ => 4) := by
  have nr := B.nr
  have ns := B.ns
  have np := B.np
  have hw0 : IntKind.wrap .i64 (2 + (ss.length : Int)) = ((2 + ss.length : Nat) : Int) := by rw [w64_id (by omega) (by omega)]; omega
  refine Ct.of zB (fn := Tryz.f68) (by kernel_rfl) (by kernel_rfl) rfl rfl ?_
  refine Rn.draw zB 1000 [0, 0, 3, 0, 15, 31, 63, 127, 127, 255, 1023] rfl (by kernel_rfl) (by kernel_rfl) ?_
  refine Rn.call zB 1000 rfl (c_rlaid rs ss po f1 f2 f3 fv vs nr ns (by omega) hv) [some 0, some 1, some 2, some 3] rfl (by (repeat' first | exact trivial | exact rfl | exact Or.inl (And.intro rfl rfl) | exact wsucc _ (by omega) | exact wlin (by first | omega | (push_cast; omega)) (by omega) | exact wint (by omega) (by omega) | refine And.intro ?_ ?_ | refine Or.inr ?_)) (by (repeat' first | exact trivial | exact rfl | exact (by decide) | exact zerosI _ | exact zerosN _ | exact OfRaw.rows (by omega) | exact Or.inl (And.intro rfl rfl) | refine And.intro ?_ ?_ | refine Exists.intro _ (Exists.intro _ (And.intro rfl (And.intro (by decide) ?_))))) rfl rfl rfl (fun _ => ⟨_, _, rfl, ?_⟩)
  refine Rn.call0d zB 1000 rfl (c_places rs ss po f1 f2 f3) [some 0, some 1, some 2] rfl rfl rfl (by (repeat' first | exact trivial | exact rfl | exact Or.inl (And.intro rfl rfl) | exact wsucc _ (by omega) | exact wlin (by first | omega | (push_cast; omega)) (by omega) | exact wint (by omega) (by omega) | refine And.intro ?_ ?_ | refine Or.inr ?_)) (by (repeat' first | exact trivial | exact rfl | exact (by decide) | exact zerosI _ | exact zerosN _ | exact OfRaw.rows (by omega) | exact Or.inl (And.intro rfl rfl) | refine And.intro ?_ ?_ | refine Exists.intro _ (Exists.intro _ (And.intro rfl (And.intro (by decide) ?_))))) rfl rfl rfl rfl ?_
  have c := c_flow (rlayP rs ss po (vOf vs)) (2 + ss.length + rs.length) false (by omega) (by omega) (by have := rlayP_len (rs := rs) (ss := ss) (po := po) (vOf vs) nr ns; omega) (fun p hp => rlayP_in hp) (fun p hp => by rw [rlayP_now hp]; exact ⟨Int.le_refl _, (rlayP_most B hvb hp).1⟩) (fun p hp => (rlayP_most B hvb hp).2) (by rw [show Snow.net (rlayP rs ss po (vOf vs)) 0 = 0 from Snow.LS_zero fun p hp => by rw [rlayP_now hp]; simp]; exact Int.le_refl _) (rlayP_cap B)
  refine Rn.call zB 1000 rfl (c) [some 5] rfl (by (repeat' first | exact trivial | exact rfl | exact Or.inl (And.intro rfl rfl) | exact wsucc _ (by omega) | exact wlin (by first | omega | (push_cast; omega)) (by omega) | exact wint (by omega) (by omega) | refine And.intro ?_ ?_ | refine Or.inr ?_)) (by (repeat' first | exact trivial | exact rfl | exact (by decide) | exact zerosI _ | exact zerosN _ | exact OfRaw.rows (by omega) | exact Or.inl (And.intro rfl rfl) | refine And.intro ?_ ?_ | refine Exists.intro _ (Exists.intro _ (And.intro rfl (And.intro (by decide) ?_))))) rfl rfl rfl ?_
  rintro ⟨⟨sum, qs, byl⟩, F⟩
  dsimp only at F
  refine ⟨_, _, rfl, ?_⟩
  refine Rn.fin zB 1000 rfl rfl rfl ⟨sum, flow_max B F⟩ [some 0, some 1, some 2, some 3] rfl rfl ?_ ?_ rfl rfl rfl
  · (repeat' first | exact trivial | exact rfl | exact Or.inl (And.intro rfl rfl) | exact wsucc _ (by omega) | exact wlin (by first | omega | (push_cast; omega)) (by omega) | exact wint (by omega) (by omega) | refine And.intro ?_ ?_ | refine Or.inr ?_)
  · (repeat' first | exact trivial | exact rfl | exact (by decide) | exact zerosI _ | exact zerosN _ | exact OfRaw.rows (by omega) | exact Or.inl (And.intro rfl rfl) | refine And.intro ?_ ?_ | refine Exists.intro _ (Exists.intro _ (And.intro rfl (And.intro (by decide) ?_))))

theorem vOf_set {vs : List Int} {i : Nat} {c : Nat → Int} {n : Nat} (hl : vs.length = n) (h : vOf vs = Snow.upTo c i) (hi : i < n) : vOf (vs.set i (c i)) = Snow.upTo c (i + 1) := by
  funext k
  have hk := congrFun h k
  unfold vOf Snow.upTo at hk ⊢
  rw [List.getD_eq_getElem?_getD] at hk ⊢
  rw [List.getElem?_set]
  by_cases e : i = k
  · subst e
    rw [if_pos rfl, if_pos (by omega), if_pos (by omega)]; rfl
  · rw [if_neg e, hk]
    by_cases h1 : k < i
    · rw [if_pos h1, if_pos (by omega)]
    · rw [if_neg h1, if_neg (by omega)]

theorem c_rpromised (rs : List Rt) (ss : List Su) (po : List Po) (f1 f2 f3 : Bool) (B : ShB rs ss po) (p : List Int) (hp : PromRes rs ss po p) :
    Ct envB 104 [shA rs.length ss.length po.length f1 f2 f3] (shB rs ss po) 3 Unit (fun _ => slA 3 0 rs.length false 1) (fun _ => [⟨3, true, none, .raw (arr iC p)⟩]) (fun _ => 4) := by
  have nr := B.nr
  have ns := B.ns
  have np := B.np
  have hpl := hp.len
  refine Ct.of zB (fn := Tryz.f104) (by kernel_rfl) (by kernel_rfl) rfl rfl ?_
  refine Rn.ask zB 1000 rfl ⟨by omega, rfl, by show (8 : Int) * _ ≤ _; omega, by omega⟩ ?_
  refine Rn.loop zB 1000 rfl (T := Nat × List Int) (fun t => rs.length - t.1) (fun t => t.1 ≤ rs.length ∧ t.2.length = rs.length ∧ vOf t.2 = Snow.upTo (claimOf rs) t.1) (fun t => [(6, iA t.1), (5, iA (Snow.S t.1 (fun j => p.getD j 0))), (4, slA 5 0 t.1 false 1), (3, slA 4 0 rs.length true 1), (1, .one (.ptr (some (3, 0))))]) (fun t => [⟨3, true, none, .ex [.sl (some (0, 0)) rs.length f1 7, .sl (some (1, 0)) ss.length f2 3, .sl (some (2, 0)) po.length f3 2]⟩, ⟨4, true, none, .raw (arr iC t.2)⟩, ⟨5, true, none, .raw (arr iC (p.take t.1))⟩] ++ shB rs ss po) (fun _ => 6) ((0, List.replicate rs.length 0)) [some 0, some 1, some 2, some 3, some 4, none] (⟨Nat.zero_le _, by simp, by rw [vOf_zero]; funext k; simp [Snow.upTo]⟩) ⟨rfl, rfl, rfl, rfl, rfl, by (repeat' first | exact trivial | exact rfl | exact Or.inl (And.intro rfl rfl) | exact wsucc _ (by omega) | exact wlin (by first | omega | (push_cast; omega)) (by omega) | exact wint (by omega) (by omega) | refine And.intro ?_ ?_ | refine Or.inr ?_), by (repeat' first | exact trivial | exact rfl | exact (by decide) | exact zerosI _ | exact zerosN _ | exact OfRaw.rows (by omega) | exact Or.inl (And.intro rfl rfl) | refine And.intro ?_ ?_ | refine Exists.intro _ (Exists.intro _ (And.intro rfl (And.intro (by decide) ?_))))⟩ ?_
  rintro ⟨i, vs⟩ ⟨hi, hvl, hvu⟩
  dsimp only at hi hvl hvu
  refine Rn.split zB 1000 rfl (fun hlt => ?_) (fun hlt => ?_)
  · have hlt : i < rs.length := by simpa using hlt
    obtain ⟨r, hr⟩ : ∃ r, rs[i]? = some r := ⟨rs[i], List.getElem?_eq_getElem hlt⟩
    have hcl : claimOf rs i = r.claim := by unfold claimOf; rw [hr]
    have hvu2 := vOf_set hvl hvu hlt
    have hset : (vs.set i (claimOf rs i)).length = rs.length := by simpa using hvl
    refine Rn.ask zB 1000 rfl ⟨by first | omega | (dsimp only; omega), by first | omega | (dsimp only; omega)⟩ ?_
    refine Rn.loadR zB 1000 rfl (LoadR.fld eRt (f := 6) (v := .int .i64 (claimOf rs i)) hr (by simp) (by rw [hcl]; rfl) rfl) ?_
    refine Rn.ask zB 1000 rfl ⟨by first | omega | (dsimp only; omega), by first | omega | (dsimp only; omega)⟩ ?_
    refine Rn.storeR zB 1000 rfl (StoreR.fld eI (f := 0) (a' := claimOf rs i) (show vs[i]? = some (vs[i]'(by omega)) from List.getElem?_eq_getElem _) (by simp) (by omega) rfl) rfl ?_
    have c := c_taken rs ss po f1 f2 f3 true (vs.set i (claimOf rs i)) B hset (fun k hk => by
      rw [hvu2]
      unfold Snow.upTo
      have := B.claimOf k
      split
      · exact this
      · decide)
    refine Rn.call zB 1000 rfl (c) [some 0, some 1, some 2, some 4] rfl (by (repeat' first | exact trivial | exact rfl | exact Or.inl (And.intro rfl rfl) | exact wsucc _ (by omega) | exact wlin (by first | omega | (push_cast; omega)) (by omega) | exact wint (by omega) (by omega) | refine And.intro ?_ ?_ | refine Or.inr ?_)) (by (repeat' first | exact trivial | exact rfl | exact (by decide) | exact zerosI _ | exact zerosN _ | exact OfRaw.rows (by omega) | exact Or.inl (And.intro rfl rfl) | refine And.intro ?_ ?_ | refine Exists.intro _ (Exists.intro _ (And.intro rfl (And.intro (by decide) ?_))))) rfl rfl rfl ?_
    rintro ⟨s, hs⟩
    refine ⟨_, _, rfl, ?_⟩
    have hsS : s = Snow.S (i + 1) (fun j => p.getD j 0) := by
      rw [hvu2] at hs
      exact hs.unique (hp.prom.most (i + 1) hlt)
    subst hsS
    have hpi : p[i]? = some (p.getD i 0) := by rw [List.getD_eq_getElem?_getD, List.getElem?_eq_getElem (by omega)]; rfl
    have hp0 := hp.prom.nonneg i hlt
    have hp1 := hp.prom.le (fun k _ => (B.claimOf k).1) i hlt
    have hp2 := B.claimOf i
    have hsum : ∀ n, n ≤ rs.length → 0 ≤ Snow.S n (fun j => p.getD j 0) ∧ Snow.S n (fun j => p.getD j 0) ≤ n * 1099511627776 := fun n hn => ⟨Snow.S_nonneg fun j hj => hp.prom.nonneg j (by show j < rs.length; omega), S_le_mul fun j hj => by
      have := hp.prom.le (fun k _ => (B.claimOf k).1) j (by show j < rs.length; omega)
      have := (B.claimOf j).2
      omega⟩
    have hS1 := hsum i hi
    have hS2 := hsum (i + 1) hlt
    have hw : IntKind.wrap .i64 (Snow.S (i + 1) (fun j => p.getD j 0) - Snow.S i (fun j => p.getD j 0)) = p.getD i 0 := by
      have : Snow.S (i + 1) (fun j => p.getD j 0) = Snow.S i (fun j => p.getD j 0) + p.getD i 0 := rfl
      rw [w64_id (by omega) (by omega)]; omega
    refine Rn.appN zB 1000 rfl (arr iC (p.take (i + 1))) (Src.raw rfl rfl (cells_n eI (by rw [List.length_take]; omega))) (Src.ex rfl rfl rfl (cells_ex rfl)) ((by rw [hw, List.take_add_one, hpi, arr_append]; rfl)) rfl (i + 1) (by first | rfl | omega | (simp; done) | (simp; omega)) (by omega) rfl (by omega) rfl rfl ?_
    refine Rn.again zB 1000 rfl ((i + 1, vs.set i (claimOf rs i))) [some 0, some 1, some 2, some 3, some 4, some 7] (by dsimp only; omega) (⟨hlt, hset, hvu2⟩) ⟨rfl, rfl, rfl, rfl, rfl, by (repeat' first | exact trivial | exact rfl | exact Or.inl (And.intro rfl rfl) | exact wsucc _ (by omega) | exact wlin (by first | omega | (push_cast; omega)) (by omega) | exact wint (by omega) (by omega) | refine And.intro ?_ ?_ | refine Or.inr ?_), by (repeat' first | exact trivial | exact rfl | exact (by decide) | exact zerosI _ | exact zerosN _ | exact OfRaw.rows (by omega) | exact Or.inl (And.intro rfl rfl) | refine And.intro ?_ ?_ | refine Exists.intro _ (Exists.intro _ (And.intro rfl (And.intro (by decide) ?_))))⟩
  · have hi2 : i = rs.length := by simp at hlt; omega
    subst hi2
    have htk : p.take rs.length = p := by rw [← hpl, List.take_length]
    rw [htk]
    refine Rn.out zB 1000 rfl rfl ?_
    refine Rn.fin zB 1000 rfl rfl rfl () [some 0, some 1, some 2, some 5] rfl rfl ?_ ?_ rfl rfl rfl
    · (repeat' first | exact trivial | exact rfl | exact Or.inl (And.intro rfl rfl) | exact wsucc _ (by omega) | exact wlin (by first | omega | (push_cast; omega)) (by omega) | exact wint (by omega) (by omega) | refine And.intro ?_ ?_ | refine Or.inr ?_)
    · (repeat' first | exact trivial | exact rfl | exact (by decide) | exact zerosI _ | exact zerosN _ | exact OfRaw.rows (by omega) | exact Or.inl (And.intro rfl rfl) | refine And.intro ?_ ?_ | refine Exists.intro _ (Exists.intro _ (And.intro rfl (And.intro (by decide) ?_))))
end Go.AM
