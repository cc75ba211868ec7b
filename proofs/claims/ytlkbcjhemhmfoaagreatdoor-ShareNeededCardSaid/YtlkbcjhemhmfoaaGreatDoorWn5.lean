/- Walks: lay. -/
import Derived.Test.YtlkbcjhemhmfoaaGreatDoorWn4
import Derived.Test.YtlkbcjhemhmfoaaGreatDoorWs1
import Derived.Test.YtlkbcjhemhmfoaaGreatDoorMh
set_option linter.unusedSimpArgs false
set_option linter.unusedVariables false
namespace Go.AM
open Go Go.Proofs
open Snow (Arc Pipe arcsOf)
set_option maxRecDepth 10000
set_option maxHeartbeats 1000000

theorem wlin {x : Int} {n : Nat} (h : x = n) (hb : n < 4611686018427387904) : Sc.int .i64 (IntKind.wrap .i64 x) = Sc.int .i64 (n : Int) := by subst h; rw [wnat n hb]

/-- The rows of a network as it is laid. -/
structure OutOK (N : Nat) (ps : List Pipe) (out : List (List Nat)) : Prop where
  len : out.length = N
  rows : Snow.Rows ps out
  rl : ∀ row ∈ out, row.length ≤ ps.length
  ends : ∀ p ∈ ps, p.fr < N ∧ p.to < N
def joinOut (out : List (List Nat)) (fr to k : Nat) : List (List Nat) := addTo (addTo out fr (2 * k)) to (2 * k + 1)
theorem addTo_mem {out : List (List Nat)} {v k : Nat} {u : Nat} {row : List Nat} (h : (addTo out v k)[u]? = some row) : ∃ r0, out[u]? = some r0 ∧ row = if u = v then r0 ++ [k] else r0 := by
  unfold addTo at h
  rcases setGet h with ⟨rfl, rfl⟩ | ⟨hne, h⟩
  · have hl : u < out.length := by
      rcases Nat.lt_or_ge u out.length with h1 | h1
      · exact h1
      · rw [List.getElem?_eq_none (by simpa using h1)] at h; cases h
    refine ⟨out[u], List.getElem?_eq_getElem hl, ?_⟩
    rw [if_pos rfl, List.getD_eq_getElem?_getD, List.getElem?_eq_getElem hl]; rfl
  · exact ⟨row, h, by rw [if_neg hne]⟩
theorem OutOK.join {N : Nat} {ps : List Pipe} {out : List (List Nat)} (O : OutOK N ps out) {fr to : Nat} (hf : fr < N) (ht : to < N) (hne : fr ≠ to) (room : Int) : OutOK N (ps ++ [⟨fr, to, room, 0⟩]) (joinOut out fr to ps.length) := by
  have key : ∀ (u : Nat) (row : List Nat), (joinOut out fr to ps.length)[u]? = some row → ∃ r0, out[u]? = some r0 ∧ row = (if u = to then (if u = fr then r0 ++ [2 * ps.length] else r0) ++ [2 * ps.length + 1] else if u = fr then r0 ++ [2 * ps.length] else r0) := fun u row h => by
    obtain ⟨r1, h1, e1⟩ := addTo_mem h
    obtain ⟨r0, h0, e0⟩ := addTo_mem h1
    exact ⟨r0, h0, by rw [e1, e0]⟩
  refine ⟨by simp [joinOut, addTo, O.len], fun v row h k => ?_, fun row hr => ?_, fun p hp => ?_⟩
  · obtain ⟨r0, h0, e⟩ := key v row h
    have hm := O.rows v r0 h0 k
    have snoc : ∀ (i : Nat) (p : Pipe), (ps ++ [⟨fr, to, room, 0⟩])[i]? = some p ↔ (ps[i]? = some p ∨ (i = ps.length ∧ p = ⟨fr, to, room, 0⟩)) := fun i p => by
      rcases Nat.lt_trichotomy i ps.length with h1 | h1 | h1
      · rw [List.getElem?_append_left h1]
        constructor
        · exact fun h => Or.inl h
        · rintro (h | ⟨h, _⟩)
          · exact h
          · omega
      · subst h1
        rw [List.getElem?_append_right (Nat.le_refl _), Nat.sub_self, List.getElem?_eq_none (Nat.le_refl _)]
        constructor
        · intro h; exact .inr ⟨rfl, by simpa using h.symm⟩
        · rintro (h | ⟨_, h⟩)
          · cases h
          · rw [h]; rfl
      · rw [List.getElem?_eq_none (by simp; omega), List.getElem?_eq_none (by omega)]
        exact ⟨fun h => (by cases h), fun h => h.elim (fun h => (by cases h)) (fun h => by omega)⟩
    constructor
    · intro hk
      have hk2 : k ∈ r0 ∨ (v = fr ∧ k = 2 * ps.length) ∨ (v = to ∧ k = 2 * ps.length + 1) := by
        rw [e] at hk
        by_cases h1 : v = to
        · rw [if_pos h1] at hk
          by_cases h2 : v = fr
          · exact absurd (h2.symm.trans h1) hne
          · rw [if_neg h2] at hk
            rcases List.mem_append.1 hk with h | h
            · exact .inl h
            · exact .inr (.inr ⟨h1, by simpa using h⟩)
        · rw [if_neg h1] at hk
          by_cases h2 : v = fr
          · rw [if_pos h2] at hk
            rcases List.mem_append.1 hk with h | h
            · exact .inl h
            · exact .inr (.inl ⟨h2, by simpa using h⟩)
          · rw [if_neg h2] at hk; exact .inl hk
      rcases hk2 with h | ⟨h1, h2⟩ | ⟨h1, h2⟩
      · obtain ⟨i, p, hp, hk⟩ := hm.1 h
        exact ⟨i, p, (snoc i p).2 (.inl hp), hk⟩
      · exact ⟨ps.length, _, (snoc _ _).2 (.inr ⟨rfl, rfl⟩), .inl ⟨h2, h1.symm⟩⟩
      · exact ⟨ps.length, _, (snoc _ _).2 (.inr ⟨rfl, rfl⟩), .inr ⟨h2, h1.symm⟩⟩
    · rintro ⟨i, p, hp, hk⟩
      have base : k ∈ r0 → k ∈ row := fun h => by
        rw [e]
        (repeat' split) <;> simp [h]
      rcases (snoc i p).1 hp with hp | ⟨rfl, rfl⟩
      · exact base (hm.2 ⟨i, p, hp, hk⟩)
      · rcases hk with ⟨h1, h2⟩ | ⟨h1, h2⟩
        · have h2 : fr = v := h2
          subst h2; subst h1
          rw [e, if_neg hne, if_pos rfl]; simp
        · have h2 : to = v := h2
          subst h2; subst h1
          rw [e, if_pos rfl]; simp
  · obtain ⟨u, hu⟩ := List.getElem?_of_mem hr
    obtain ⟨r0, h0, e⟩ := key u row hu
    have := O.rl r0 (List.mem_of_getElem? h0)
    rw [e]
    split
    · rename_i h1
      split
      · rename_i h2; exact absurd (h2.symm.trans h1) hne
      · simp; omega
    · split <;> simp <;> omega
  · rcases List.mem_append.1 hp with h | h
    · exact O.ends p h
    · have : p = ⟨fr, to, room, 0⟩ := by simpa using h
      subst this; exact ⟨hf, ht⟩

theorem OutOK.start (N : Nat) : OutOK N [] (List.replicate N []) := by
  refine ⟨by simp, fun v row h k => ?_, fun row hr => ?_, fun p hp => by cases hp⟩
  · rw [List.getElem?_replicate] at h
    split at h
    · injection h with h; subst h; simp
    · cases h
  · rw [(List.mem_replicate.1 hr).2]; simp

/-- join, of a network that tells of pipes. -/
theorem c_join2 (ps : List Pipe) (N : Nat) (out : List (List Nat)) (fo : Bool) (ne nd : Nat) (fe fd : Bool) (fr to : Nat) (room : Int) (O : OutOK N ps out) (hb : ps.length < 40000000000) (hN : N < 90000000000) (hf : fr < N) (ht : to < N) :
    Ct envB 132 [.one (.ptr (some (0, 0))), iA fr, iA to, iA room] [⟨0, true, none, .ex (planC 1 (2 * ps.length) 2 N false fo 3 ne fe 4 nd fd)⟩, ⟨1, true, none, .raw (arr arcC (arcsOf ps))⟩, ⟨2, true, none, .res (rows out)⟩] 5 Unit
      (fun _ => iA (2 * ps.length : Nat)) (fun _ => [⟨0, true, none, .ex (planC 5 (2 * (ps ++ [Pipe.mk fr to room 0]).length) 2 N false fo 3 ne fe 4 nd fd)⟩, ⟨5, true, none, .raw (arr arcC (arcsOf (ps ++ [Pipe.mk fr to room 0])))⟩, ⟨2, true, none, .res (rows (joinOut out fr to ps.length))⟩]) (fun _ => 6) := by
  have hl := Snow.arcs_len ps
  have c := c_join (arcsOf ps) out fo ne nd fe fd fr to room (by omega) (fun row hr => by have := O.rl row hr; omega) (by rw [O.len]; exact hN) (by rw [O.len]; exact hf) (by rw [O.len]; exact ht)
  have e1 : joinArcs (arcsOf ps) fr to room = arcsOf (ps ++ [Pipe.mk fr to room 0]) := by
    rw [Snow.arcs_snoc]
    unfold joinArcs
    rw [hl]; simp
  have e2 : 2 * (ps ++ [Pipe.mk fr to room 0]).length = 2 * ps.length + 2 := by simp; omega
  rw [e1, hl, O.len] at c
  rw [e2]
  exact c

/-! ### lay -/
def dwC (d : Nat × Nat × Nat) : List Sc := [.int .i64 d.1, .int .i64 d.2.1, .int .i64 d.2.2]
theorem eDwC : Elt dwC 3 := ⟨fun _ => rfl, fun _ => rfl⟩
def volOf (ss : List Su) (i : Nat) : Int := match ss[i]? with | some s => s.vol | none => 0
def valOf (ss : List Su) (i : Nat) : Int := match ss[i]? with | some s => s.valley | none => 0
def winOf (rs : List Rt) (ss : List Su) (k i : Nat) : Bool := match rs[k]?, ss[i]? with | some r, some s => win r s | _, _ => false
/-- The share as numbers. -/
def instOf (rs : List Rt) (ss : List Su) (po : List Po) : Snow.Inst := ⟨ss.length, rs.length, volOf ss, fun i => if fol ss i then roomOf po (valOf ss i) else 0, winOf rs ss⟩
def endless : Int := 1152921504606846976
def supP (rs : List Rt) (ss : List Su) (po : List Po) (i : Nat) : List Pipe := [⟨0, 2 + i, volOf ss i, 0⟩] ++ (if fol ss i = true then [⟨1 + i, 2 + i, (instOf rs ss po).room i, 0⟩] else [])
def drawP (rs : List Rt) (ss : List Su) (k i : Nat) : List Pipe := ((List.range i).filter (fun i => winOf rs ss k i)).map fun i => ⟨2 + i, 2 + ss.length + k, endless, 0⟩
def rtP (rs : List Rt) (ss : List Su) (v : Nat → Int) (k : Nat) : List Pipe := drawP rs ss k ss.length ++ [⟨2 + ss.length + k, 1, v k, 0⟩]
def layP (rs : List Rt) (ss : List Su) (po : List Po) (v : Nat → Int) (k : Nat) : List Pipe := (List.range ss.length).flatMap (supP rs ss po) ++ (List.range k).flatMap (rtP rs ss v)
theorem layP_eq (rs : List Rt) (ss : List Su) (po : List Po) (v : Nat → Int) : layP rs ss po v rs.length = Snow.ourPipes (instOf rs ss po) (fol ss) v endless := rfl
def vOf (vs : List Int) (k : Nat) : Int := vs.getD k 0
def EndsOK (ns : Nat) (v : Nat → Int) (k : Nat) (ps : List Pipe) (ends : List Nat) : Prop := ends.length = k ∧ ∀ j, j < k → ∃ q, ends[j]? = some (2 * q) ∧ ps[q]? = some ⟨2 + ns + j, 1, v j, 0⟩
def DrawsOK (ns : Nat) (ps : List Pipe) (draws : List (Nat × Nat × Nat)) : Prop := ∀ d ∈ draws, ∃ q, d.2.2 = 2 * q ∧ ps[q]? = some ⟨2 + d.1, 2 + ns + d.2.1, endless, 0⟩
def pairsOf (rs : List Rt) (ss : List Su) (k i : Nat) : List (Nat × Nat) := ((List.range i).filter (fun i => winOf rs ss k i)).map fun i => (i, k)
/-- What lay comes to. -/
structure LayRes (rs : List Rt) (ss : List Su) (po : List Po) (vs : List Int) (out : List (List Nat)) (ends : List Nat) (draws : List (Nat × Nat × Nat)) : Prop where
  o : OutOK (2 + ss.length + rs.length) (layP rs ss po (vOf vs) rs.length) out
  e : EndsOK ss.length (vOf vs) rs.length (layP rs ss po (vOf vs) rs.length) ends
  d : DrawsOK ss.length (layP rs ss po (vOf vs) rs.length) draws
  pairs : draws.map (fun d => (d.1, d.2.1)) = (List.range rs.length).flatMap fun k => pairsOf rs ss k ss.length

theorem EndsOK.more {ns : Nat} {v : Nat → Int} {k : Nat} {ps : List Pipe} {ends : List Nat} (h : EndsOK ns v k ps ends) (qs : List Pipe) : EndsOK ns v k (ps ++ qs) ends := ⟨h.1, fun j hj => by
  obtain ⟨q, h1, h2⟩ := h.2 j hj
  exact ⟨q, h1, by rw [List.getElem?_append_left (List.getElem?_eq_some_iff.mp h2).1]; exact h2⟩⟩
theorem DrawsOK.more {ns : Nat} {ps : List Pipe} {draws : List (Nat × Nat × Nat)} (h : DrawsOK ns ps draws) (qs : List Pipe) : DrawsOK ns (ps ++ qs) draws := fun d hd => by
  obtain ⟨q, h1, h2⟩ := h d hd
  exact ⟨q, h1, by rw [List.getElem?_append_left (List.getElem?_eq_some_iff.mp h2).1]; exact h2⟩
theorem EndsOK.snoc {ns : Nat} {v : Nat → Int} {k : Nat} {ps : List Pipe} {ends : List Nat} (h : EndsOK ns v k ps ends) : EndsOK ns v (k + 1) (ps ++ [⟨2 + ns + k, 1, v k, 0⟩]) (ends ++ [2 * ps.length]) := by
  refine ⟨by simp [h.1], fun j hj => ?_⟩
  by_cases e : j = k
  · subst e
    exact ⟨ps.length, by rw [← h.1]; simp, by simp⟩
  · obtain ⟨q, h1, h2⟩ := (h.more [⟨2 + ns + k, 1, v k, 0⟩]).2 j (by omega)
    exact ⟨q, by rw [List.getElem?_append_left (by rw [h.1]; omega)]; exact h1, h2⟩
theorem DrawsOK.snoc {ns : Nat} {ps : List Pipe} {draws : List (Nat × Nat × Nat)} (h : DrawsOK ns ps draws) (i k : Nat) : DrawsOK ns (ps ++ [⟨2 + i, 2 + ns + k, endless, 0⟩]) (draws ++ [(i, k, 2 * ps.length)]) := fun d hd => by
  rcases List.mem_append.1 hd with h1 | h1
  · exact h.more _ d h1
  · have : d = (i, k, 2 * ps.length) := by simpa using h1
    subst this
    exact ⟨ps.length, rfl, by simp⟩
theorem range_flat {α : Type} (k : Nat) (f : Nat → List α) : (List.range (k + 1)).flatMap f = (List.range k).flatMap f ++ f k := by simp [List.range_succ]
theorem range_filter_t (p : Nat → Bool) {i : Nat} (h : p i = true) : (List.range (i + 1)).filter p = (List.range i).filter p ++ [i] := by simp [List.range_succ, h]
theorem range_filter_f (p : Nat → Bool) {i : Nat} (h : p i = false) : (List.range (i + 1)).filter p = (List.range i).filter p := by simp [List.range_succ, h]

theorem cells_n {α : Type} {c : α → List Sc} {s : Nat} (e : Elt c s) {xs : List α} {n : Nat} (h : xs.length = n) : CellsR (arr c xs) 0 (n * s) (arr c xs) := by subst h; exact cells_all e xs
theorem c_layX (rx rs : List Rt) (hpre : ∀ (i : Nat) (r : Rt), rs[i]? = some r → rx[i]? = some r) (ss : List Su) (po : List Po) (f1 f2 f3 fv : Bool) (vs : List Int) (hr : rs.length ≤ 32) (hs : ss.length ≤ 64) (hp : po.length < 1152921504606846976) (hv : vs.length = rs.length) :
    Ct envB 71 [shA rs.length ss.length po.length f1 f2 f3, slA 3 0 rs.length fv 1] (shB rx ss po ++ [⟨3, false, none, .raw (arr iC vs)⟩]) 4 { r : List (List Nat) × List Nat × List (Nat × Nat × Nat) // LayRes rs ss po vs r.1 r.2.1 r.2.2 }
      (fun _ => .one (.ptr (some (4, 0)))) (fun a => [⟨4, true, none, .ex (planC 5 (2 * (layP rs ss po (vOf vs) rs.length).length) 6 (2 + ss.length + rs.length) false true 7 rs.length false 8 a.1.2.2.length false)⟩, ⟨5, true, none, .raw (arr arcC (arcsOf (layP rs ss po (vOf vs) rs.length)))⟩, ⟨6, true, none, .res (rows a.1.1)⟩, ⟨7, true, none, .raw (arr nC a.1.2.1)⟩, ⟨8, true, none, .raw (arr dwC a.1.2.2)⟩]) (fun _ => 9) := by
  refine Ct.of zB (fn := Tryz.f71) (by kernel_rfl) (by kernel_rfl) rfl rfl ?_
  have hw0 : IntKind.wrap .i64 (2 + (ss.length : Int)) = ((2 + ss.length : Nat) : Int) := by rw [w64_id (by omega) (by omega)]; omega
  have hw : IntKind.wrap .i64 (IntKind.wrap .i64 (2 + (ss.length : Int)) + (rs.length : Int)) = ((2 + ss.length + rs.length : Nat) : Int) := by rw [hw0, w64_id (by omega) (by omega)]; omega
  refine Rn.ask zB 1000 rfl ⟨by rw [hw]; omega, rfl, by show (24 : Int) * _ ≤ _; rw [hw]; omega, by rw [hw]; omega⟩ ?_
  rw [hw]
  refine Rn.loop zB 1000 rfl (T := Nat × List Pipe × List (List Nat)) (fun t => ss.length - t.1) (fun t => t.1 ≤ ss.length ∧ t.2.1 = (List.range t.1).flatMap (supP rs ss po) ∧ t.2.1.length ≤ 2 * t.1 ∧ OutOK (2 + ss.length + rs.length) t.2.1 t.2.2) (fun t => [(28, iA t.1), (27, iA ss.length), (26, slA 1 0 ss.length f2 3), (5, .one (.ptr (some (5, 0)))), (2, .one (.ptr (some (4, 0)))), (1, slA 3 0 rs.length fv 1)]) (fun t => [⟨4, true, none, .ex [.sl (some (0, 0)) rs.length f1 7, .sl (some (1, 0)) ss.length f2 3, .sl (some (2, 0)) po.length f3 2]⟩, ⟨5, true, none, .ex (planC 7 (2 * t.2.1.length) 6 (2 + ss.length + rs.length) false true 8 0 false 9 0 false)⟩, ⟨6, true, none, .res (rows t.2.2)⟩, ⟨7, true, none, .raw (arr arcC (arcsOf t.2.1))⟩, ⟨8, true, none, .raw (arr nC [])⟩, ⟨9, true, none, .raw (arr dwC [])⟩, ⟨3, false, none, .raw (arr iC vs)⟩] ++ shB rx ss po) (fun _ => 10) ((0, [], List.replicate (2 + ss.length + rs.length) [])) [some 0, some 1, some 2, some 3, some 4, some 6, some 5, none, none, none] (⟨Nat.zero_le _, rfl, Nat.le_refl _, OutOK.start _⟩) ⟨rfl, rfl, rfl, rfl, rfl, by (repeat' first | exact trivial | exact rfl | exact Or.inl (And.intro rfl rfl) | exact wsucc _ (by omega) | exact wlin (by first | omega | (push_cast; omega)) (by omega) | exact wint (by omega) (by omega) | refine And.intro ?_ ?_ | refine Or.inr ?_), by (repeat' first | exact trivial | exact rfl | exact (by decide) | exact zerosI _ | exact zerosN _ | exact OfRaw.rows (by omega) | exact Or.inl (And.intro rfl rfl) | refine And.intro ?_ ?_ | refine Exists.intro _ (Exists.intro _ (And.intro rfl (And.intro (by decide) ?_))))⟩ ?_
  rintro ⟨i, ps, out⟩ ⟨hi, hps, hpl, O⟩
  dsimp only at hi hps hpl O
  refine Rn.split zB 1000 rfl (fun hlt => ?_) (fun hlt => ?_)
  · have hlt : i < ss.length := by simpa using hlt
    obtain ⟨x, hx⟩ : ∃ x, ss[i]? = some x := ⟨ss[i], List.getElem?_eq_getElem hlt⟩
    have hvol : volOf ss i = x.vol := by unfold volOf; rw [hx]
    have hval : valOf ss i = x.valley := by unfold valOf; rw [hx]
    refine Rn.ask zB 1000 rfl ⟨by first | omega | (dsimp only; omega), by first | omega | (dsimp only; omega)⟩ ?_
    refine Rn.loadR zB 1000 rfl (LoadR.elt eSu hx (by simp)) ?_
    refine Rn.draw zB 1000 [0, 1, 3, 0, 8, 0, 32, 127] rfl (by kernel_rfl) (by kernel_rfl) ?_
    have c1 := c_join2 ps (2 + ss.length + rs.length) out true 0 0 false false 0 (2 + i) x.vol O (by omega) (by omega) (by omega) (by omega)
    have O1 := O.join (fr := 0) (to := 2 + i) (by omega) (by omega) (by omega) x.vol
    refine Rn.call zB 1000 rfl (c1) [some 5, some 7, some 6, some 8, some 9] rfl (by (repeat' first | exact trivial | exact rfl | exact Or.inl (And.intro rfl rfl) | exact wsucc _ (by omega) | exact wlin (by first | omega | (push_cast; omega)) (by omega) | exact wint (by omega) (by omega) | refine And.intro ?_ ?_ | refine Or.inr ?_)) (by (repeat' first | exact trivial | exact rfl | exact (by decide) | exact zerosI _ | exact zerosN _ | exact OfRaw.rows (by omega) | exact Or.inl (And.intro rfl rfl) | refine And.intro ?_ ?_ | refine Exists.intro _ (Exists.intro _ (And.intro rfl (And.intro (by decide) ?_))))) rfl rfl rfl (fun _ => ⟨_, _, rfl, ?_⟩)
    refine Rn.call0 zB 1000 rfl (c_follows ss f2 i hlt (by omega)) [some 1] rfl rfl (by (repeat' first | exact trivial | exact rfl | exact Or.inl (And.intro rfl rfl) | exact wsucc _ (by omega) | exact wlin (by first | omega | (push_cast; omega)) (by omega) | exact wint (by omega) (by omega) | refine And.intro ?_ ?_ | refine Or.inr ?_)) (by (repeat' first | exact trivial | exact rfl | exact (by decide) | exact zerosI _ | exact zerosN _ | exact OfRaw.rows (by omega) | exact Or.inl (And.intro rfl rfl) | refine And.intro ?_ ?_ | refine Exists.intro _ (Exists.intro _ (And.intro rfl (And.intro (by decide) ?_))))) rfl rfl rfl rfl rfl ?_
    refine Rn.split zB 1000 rfl (fun hf => ?_) (fun hf => ?_)
    · have hf : fol ss i = true := by simpa using hf
      refine Rn.draw zB 1000 [0, 1, 3, 0, 8, 0, 32, 0, 0, 256, 896, 2047] rfl (by kernel_rfl) (by kernel_rfl) ?_
      refine Rn.call0d zB 1000 rfl (c_roomX rx rs.length ss po f1 f2 f3 hp x.valley) [some 0, some 1, some 2] rfl rfl rfl (by (repeat' first | exact trivial | exact rfl | exact Or.inl (And.intro rfl rfl) | exact wsucc _ (by omega) | exact wlin (by first | omega | (push_cast; omega)) (by omega) | exact wint (by omega) (by omega) | refine And.intro ?_ ?_ | refine Or.inr ?_)) (by (repeat' first | exact trivial | exact rfl | exact (by decide) | exact zerosI _ | exact zerosN _ | exact OfRaw.rows (by omega) | exact Or.inl (And.intro rfl rfl) | refine And.intro ?_ ?_ | refine Exists.intro _ (Exists.intro _ (And.intro rfl (And.intro (by decide) ?_))))) rfl rfl rfl rfl ?_
      have hl1 : (ps ++ [Pipe.mk 0 (2 + i) x.vol 0]).length = ps.length + 1 := by simp
      have c2 := c_join2 (ps ++ [Pipe.mk 0 (2 + i) x.vol 0]) (2 + ss.length + rs.length) _ true 0 0 false false (1 + i) (2 + i) (roomOf po x.valley) O1 (by omega) (by omega) (by omega) (by omega)
      have O2 := O1.join (fr := 1 + i) (to := 2 + i) (by omega) (by omega) (by omega) (roomOf po x.valley)
      refine Rn.call zB 1000 rfl (c2) [some 5, some 11, some 6, some 8, some 9] rfl (by (repeat' first | exact trivial | exact rfl | exact Or.inl (And.intro rfl rfl) | exact wsucc _ (by omega) | exact wlin (by first | omega | (push_cast; omega)) (by omega) | exact wint (by omega) (by omega) | refine And.intro ?_ ?_ | refine Or.inr ?_)) (by (repeat' first | exact trivial | exact rfl | exact (by decide) | exact zerosI _ | exact zerosN _ | exact OfRaw.rows (by omega) | exact Or.inl (And.intro rfl rfl) | refine And.intro ?_ ?_ | refine Exists.intro _ (Exists.intro _ (And.intro rfl (And.intro (by decide) ?_))))) rfl rfl rfl (fun _ => ⟨_, _, rfl, ?_⟩)
      refine Rn.again zB 1000 rfl ((i + 1, (ps ++ [Pipe.mk 0 (2 + i) x.vol 0]) ++ [Pipe.mk (1 + i) (2 + i) (roomOf po x.valley) 0], _)) [some 0, some 1, some 2, some 3, some 4, some 5, some 6, some 12, some 8, some 9] (by dsimp only; omega) (⟨hlt, by dsimp only; rw [range_flat, ← hps, supP, if_pos hf, hvol]; simp [instOf, hf, hval], by dsimp only; simp; omega, O2⟩) ⟨rfl, rfl, rfl, rfl, rfl, by (repeat' first | exact trivial | exact rfl | exact Or.inl (And.intro rfl rfl) | exact wsucc _ (by omega) | exact wlin (by first | omega | (push_cast; omega)) (by omega) | exact wint (by omega) (by omega) | refine And.intro ?_ ?_ | refine Or.inr ?_), by (repeat' first | exact trivial | exact rfl | exact (by decide) | exact zerosI _ | exact zerosN _ | exact OfRaw.rows (by omega) | exact Or.inl (And.intro rfl rfl) | refine And.intro ?_ ?_ | refine Exists.intro _ (Exists.intro _ (And.intro rfl (And.intro (by decide) ?_))))⟩
    · have hf : fol ss i = false := by simpa using hf
      refine Rn.again zB 1000 rfl ((i + 1, ps ++ [Pipe.mk 0 (2 + i) x.vol 0], _)) [some 0, some 1, some 2, some 3, some 4, some 5, some 6, some 11, some 8, some 9] (by dsimp only; omega) (⟨hlt, by dsimp only; rw [range_flat, ← hps, supP, hf, hvol]; simp, by dsimp only; simp; omega, O1⟩) ⟨rfl, rfl, rfl, rfl, rfl, by (repeat' first | exact trivial | exact rfl | exact Or.inl (And.intro rfl rfl) | exact wsucc _ (by omega) | exact wlin (by first | omega | (push_cast; omega)) (by omega) | exact wint (by omega) (by omega) | refine And.intro ?_ ?_ | refine Or.inr ?_), by (repeat' first | exact trivial | exact rfl | exact (by decide) | exact zerosI _ | exact zerosN _ | exact OfRaw.rows (by omega) | exact Or.inl (And.intro rfl rfl) | refine And.intro ?_ ?_ | refine Exists.intro _ (Exists.intro _ (And.intro rfl (And.intro (by decide) ?_))))⟩
  have hi2 : i = ss.length := by simp at hlt; omega
  subst hi2
  refine Rn.out zB 1000 rfl rfl ?_
  refine Rn.loop zB 1000 rfl (T := Nat × List Pipe × List (List Nat) × List Nat × List (Nat × Nat × Nat)) (fun t => rs.length - t.1) (fun t => t.1 ≤ rs.length ∧ t.2.1 = layP rs ss po (vOf vs) t.1 ∧ t.2.1.length ≤ 128 + 65 * t.1 ∧ OutOK (2 + ss.length + rs.length) t.2.1 t.2.2.1 ∧ EndsOK ss.length (vOf vs) t.1 t.2.1 t.2.2.2.1 ∧ DrawsOK ss.length t.2.1 t.2.2.2.2 ∧ t.2.2.2.2.length ≤ 64 * t.1 ∧ t.2.2.2.2.map (fun d => (d.1, d.2.1)) = (List.range t.1).flatMap fun k => pairsOf rs ss k ss.length) (fun t => [(61, iA t.1), (60, iA rs.length), (59, slA 0 0 rs.length f1 7), (5, .one (.ptr (some (5, 0)))), (2, .one (.ptr (some (4, 0)))), (1, slA 3 0 rs.length fv 1)]) (fun t => [⟨4, true, none, .ex [.sl (some (0, 0)) rs.length f1 7, .sl (some (1, 0)) ss.length f2 3, .sl (some (2, 0)) po.length f3 2]⟩, ⟨5, true, none, .ex (planC 7 (2 * t.2.1.length) 6 (2 + ss.length + rs.length) false true 8 t.1 false 9 t.2.2.2.2.length false)⟩, ⟨6, true, none, .res (rows t.2.2.1)⟩, ⟨7, true, none, .raw (arr arcC (arcsOf t.2.1))⟩, ⟨8, true, none, .raw (arr nC t.2.2.2.1)⟩, ⟨9, true, none, .raw (arr dwC t.2.2.2.2)⟩, ⟨3, false, none, .raw (arr iC vs)⟩] ++ shB rx ss po) (fun _ => 10) ((0, ps, out, [], [])) [some 0, some 1, some 2, some 3, some 4, some 5, some 6, some 7, some 8, some 9] (⟨Nat.zero_le _, by dsimp only; rw [hps]; simp [layP], by dsimp only; omega, O, ⟨rfl, fun j h => absurd h (Nat.not_lt_zero j)⟩, fun d h => absurd h List.not_mem_nil, Nat.zero_le _, rfl⟩) ⟨rfl, rfl, rfl, rfl, rfl, by (repeat' first | exact trivial | exact rfl | exact Or.inl (And.intro rfl rfl) | exact wsucc _ (by omega) | exact wlin (by first | omega | (push_cast; omega)) (by omega) | exact wint (by omega) (by omega) | refine And.intro ?_ ?_ | refine Or.inr ?_), by (repeat' first | exact trivial | exact rfl | exact (by decide) | exact zerosI _ | exact zerosN _ | exact OfRaw.rows (by omega) | exact Or.inl (And.intro rfl rfl) | refine And.intro ?_ ?_ | refine Exists.intro _ (Exists.intro _ (And.intro rfl (And.intro (by decide) ?_))))⟩ ?_
  rintro ⟨k, ps, out, ends, draws⟩ ⟨hk, hps, hpl, O, hE, hD, hDl, hPr⟩
  dsimp only at hk hps hpl O hE hD hDl hPr
  refine Rn.split zB 1000 rfl (fun hlt => ?_) (fun hlt => ?_)
  · have hlt : k < rs.length := by simpa using hlt
    obtain ⟨r, hrk⟩ : ∃ r, rs[k]? = some r := ⟨rs[k], List.getElem?_eq_getElem hlt⟩
    refine Rn.ask zB 1000 rfl ⟨by first | omega | (dsimp only; omega), by first | omega | (dsimp only; omega)⟩ ?_
    refine Rn.loadR zB 1000 rfl (LoadR.elt eRt (hpre _ _ hrk) (by simp)) ?_
    have hwn : IntKind.wrap .i64 (IntKind.wrap .i64 (2 + (ss.length : Int)) + (k : Int)) = ((2 + ss.length + k : Nat) : Int) := by rw [hw0, w64_id (by omega) (by omega)]; omega
    refine Rn.loop zB 1000 rfl (T := Nat × List Pipe × List (List Nat) × List (Nat × Nat × Nat)) (fun t => ss.length - t.1) (fun t => t.1 ≤ ss.length ∧ t.2.1 = layP rs ss po (vOf vs) k ++ drawP rs ss k t.1 ∧ t.2.1.length ≤ 128 + 65 * k + t.1 ∧ OutOK (2 + ss.length + rs.length) t.2.1 t.2.2.1 ∧ EndsOK ss.length (vOf vs) k t.2.1 ends ∧ DrawsOK ss.length t.2.1 t.2.2.2 ∧ t.2.2.2.length ≤ 64 * k + t.1 ∧ t.2.2.2.map (fun d => (d.1, d.2.1)) = ((List.range k).flatMap fun k => pairsOf rs ss k ss.length) ++ pairsOf rs ss k t.1) (fun t => [(75, iA t.1), (74, iA ss.length), (73, slA 1 0 ss.length f2 3), (10, iA (2 + ss.length + k : Nat)), (9, .one (.ptr (some (10, 0)))), (8, iA k), (61, iA k), (60, iA rs.length), (59, slA 0 0 rs.length f1 7), (5, .one (.ptr (some (5, 0)))), (2, .one (.ptr (some (4, 0)))), (1, slA 3 0 rs.length fv 1)]) (fun t => [⟨10, true, none, .ex r.c⟩, ⟨4, true, none, .ex [.sl (some (0, 0)) rs.length f1 7, .sl (some (1, 0)) ss.length f2 3, .sl (some (2, 0)) po.length f3 2]⟩, ⟨5, true, none, .ex (planC 7 (2 * t.2.1.length) 6 (2 + ss.length + rs.length) false true 8 k false 9 t.2.2.2.length false)⟩, ⟨6, true, none, .res (rows t.2.2.1)⟩, ⟨7, true, none, .raw (arr arcC (arcsOf t.2.1))⟩, ⟨8, true, none, .raw (arr nC ends)⟩, ⟨9, true, none, .raw (arr dwC t.2.2.2)⟩, ⟨3, false, none, .raw (arr iC vs)⟩] ++ shB rx ss po) (fun _ => 11) ((0, ps, out, draws)) [some 0, some 1, some 2, some 3, some 4, some 5, some 6, some 7, some 8, some 9, some 10] (⟨Nat.zero_le _, by dsimp only; rw [hps]; simp [drawP], by dsimp only; omega, O, hE, hD, by dsimp only; omega, by dsimp only; rw [hPr]; simp [pairsOf]⟩) ⟨rfl, rfl, rfl, rfl, rfl, by (repeat' first | exact trivial | exact rfl | exact Or.inl (And.intro rfl rfl) | exact wsucc _ (by omega) | exact wlin (by first | omega | (push_cast; omega)) (by omega) | exact wint (by omega) (by omega) | refine And.intro ?_ ?_ | refine Or.inr ?_), by (repeat' first | exact trivial | exact rfl | exact (by decide) | exact zerosI _ | exact zerosN _ | exact OfRaw.rows (by omega) | exact Or.inl (And.intro rfl rfl) | refine And.intro ?_ ?_ | refine Exists.intro _ (Exists.intro _ (And.intro rfl (And.intro (by decide) ?_))))⟩ ?_
    rintro ⟨i, ps, out, draws⟩ ⟨hi, hps, hpl, O, hE, hD, hDl, hPr⟩
    dsimp only at hi hps hpl O hE hD hDl hPr
    refine Rn.split zB 1000 rfl (fun hli => ?_) (fun hli => ?_)
    · have hli : i < ss.length := by simpa using hli
      obtain ⟨x, hx⟩ : ∃ x, ss[i]? = some x := ⟨ss[i], List.getElem?_eq_getElem hli⟩
      have hwo : winOf rs ss k i = win r x := by unfold winOf; rw [hrk, hx]
      refine Rn.ask zB 1000 rfl ⟨by first | omega | (dsimp only; omega), by first | omega | (dsimp only; omega)⟩ ?_
      refine Rn.loadR zB 1000 rfl (LoadR.elt eSu hx (by simp)) ?_
      refine Rn.split zB 1000 rfl (fun hwin => ?_) (fun hwin => ?_)
      · have hwin : winOf rs ss k i = true := hwo.trans hwin
        refine Rn.draw zB 1000 [0, 0, 2, 6, 14, 0, 0, 0, 128, 384, 0, 1024, 0, 8064, 16352, 32736, 65534, 131071, 262143, 524287] rfl (by kernel_rfl) (by kernel_rfl) ?_
        have c3 := c_join2 ps (2 + ss.length + rs.length) out true k draws.length false false (2 + i) (2 + ss.length + k) endless O (by omega) (by omega) (by omega) (by omega)
        have O3 := O.join (fr := 2 + i) (to := 2 + ss.length + k) (by omega) (by omega) (by omega) endless
        refine Rn.callX zB 1000 rfl (Rn.opCallX rfl rfl (c3) [some 5, some 7, some 6, some 8, some 9] rfl (by (repeat' first | exact trivial | exact rfl | exact Or.inl (And.intro rfl rfl) | exact wsucc _ (by omega) | exact wlin (by first | omega | (push_cast; omega)) (by omega) | exact wint (by omega) (by omega) | refine And.intro ?_ ?_ | refine Or.inr ?_)) (by (repeat' first | exact trivial | exact rfl | exact (by decide) | exact zerosI _ | exact zerosN _ | exact OfRaw.rows (by omega) | exact Or.inl (And.intro rfl rfl) | refine And.intro ?_ ?_ | refine Exists.intro _ (Exists.intro _ (And.intro rfl (And.intro (by decide) ?_))))) rfl rfl rfl (by kernel_rfl) rfl rfl rfl ?_)
        rintro -
        refine ⟨_, _, rfl, ⟨.inr ⟨rfl, _, _, _, _, _, _, rfl, rfl, rfl, rfl, rfl⟩, trivial⟩, ?_⟩
        have hdl : (draws ++ [(i, k, 2 * ps.length)]).length = draws.length + 1 := by simp
        refine Rn.appN zB 1000 rfl (arr dwC (draws ++ [(i, k, 2 * ps.length)])) (Src.raw rfl rfl (cells_all eDwC draws)) (Src.ex rfl rfl rfl (cells_one eDwC (i, k, 2 * ps.length))) ((arr_append _ _).symm) rfl ((draws ++ [(i, k, 2 * ps.length)]).length) (by first | rfl | omega | (simp; done) | (simp; omega)) (by omega) rfl (by omega) rfl rfl ?_
        refine Rn.again zB 1000 rfl ((i + 1, ps ++ [Pipe.mk (2 + i) (2 + ss.length + k) endless 0], _, draws ++ [(i, k, 2 * ps.length)])) [some 0, some 1, some 2, some 3, some 4, some 5, some 6, some 12, some 8, some 14, some 10] (by dsimp only; omega) (⟨hli, by dsimp only; rw [hps, drawP, drawP, range_filter_t _ hwin]; simp, by dsimp only; simp; omega, O3, hE.more _, hD.snoc i k, by dsimp only; simp; omega, by dsimp only; rw [List.map_append, hPr, pairsOf, pairsOf, range_filter_t _ hwin]; simp⟩) ⟨rfl, rfl, rfl, rfl, rfl, by (repeat' first | exact trivial | exact rfl | exact Or.inl (And.intro rfl rfl) | exact wsucc _ (by omega) | exact wlin (by first | omega | (push_cast; omega)) (by omega) | exact wint (by omega) (by omega) | refine And.intro ?_ ?_ | refine Or.inr ?_), by (repeat' first | exact trivial | exact rfl | exact (by decide) | exact zerosI _ | exact zerosN _ | exact OfRaw.rows (by omega) | exact Or.inl (And.intro rfl rfl) | refine And.intro ?_ ?_ | refine Exists.intro _ (Exists.intro _ (And.intro rfl (And.intro (by decide) ?_))))⟩
      · have hwin : winOf rs ss k i = false := hwo.trans hwin
        refine Rn.again zB 1000 rfl ((i + 1, ps, out, draws)) [some 0, some 1, some 2, some 3, some 4, some 5, some 6, some 7, some 8, some 9, some 10] (by dsimp only; omega) (⟨hli, by dsimp only; rw [hps, drawP, drawP, range_filter_f _ hwin], by dsimp only; omega, O, hE, hD, by dsimp only; omega, by dsimp only; rw [hPr, pairsOf, pairsOf, range_filter_f _ hwin]⟩) ⟨rfl, rfl, rfl, rfl, rfl, by (repeat' first | exact trivial | exact rfl | exact Or.inl (And.intro rfl rfl) | exact wsucc _ (by omega) | exact wlin (by first | omega | (push_cast; omega)) (by omega) | exact wint (by omega) (by omega) | refine And.intro ?_ ?_ | refine Or.inr ?_), by (repeat' first | exact trivial | exact rfl | exact (by decide) | exact zerosI _ | exact zerosN _ | exact OfRaw.rows (by omega) | exact Or.inl (And.intro rfl rfl) | refine And.intro ?_ ?_ | refine Exists.intro _ (Exists.intro _ (And.intro rfl (And.intro (by decide) ?_))))⟩
    · have hli : i = ss.length := by simp at hli; omega
      subst hli
      have hvk : vs[k]? = some (vOf vs k) := by unfold vOf; rw [List.getD_eq_getElem?_getD, List.getElem?_eq_getElem (by omega)]; rfl
      have hrt : ps ++ [Pipe.mk (2 + ss.length + k) 1 (vOf vs k) 0] = layP rs ss po (vOf vs) (k + 1) := by rw [hps, layP, layP, range_flat, rtP]; simp
      refine Rn.out zB 1000 rfl rfl ?_
      refine Rn.draw zB 1000 [0, 0, 2, 6, 14, 0, 32, 96, 0, 0, 0, 1536, 3584, 8160, 16352, 32766, 65535, 131071, 262143] rfl (by kernel_rfl) (by kernel_rfl) ?_
      refine Rn.ask zB 1000 rfl ⟨by omega, by omega⟩ ?_
      refine Rn.loadR zB 1000 rfl (LoadR.fld eI (f := 0) (v := .int .i64 (vOf vs k)) hvk (by simp) rfl rfl) ?_
      have c4 := c_join2 ps (2 + ss.length + rs.length) out true k draws.length false false (2 + ss.length + k) 1 (vOf vs k) O (by omega) (by omega) (by omega) (by omega)
      have O4 := O.join (fr := 2 + ss.length + k) (to := 1) (by omega) (by omega) (by omega) (vOf vs k)
      refine Rn.callX zB 1000 rfl (Rn.opCallX rfl rfl (c4) [some 5, some 7, some 6, some 8, some 9] rfl (by (repeat' first | exact trivial | exact rfl | exact Or.inl (And.intro rfl rfl) | exact wsucc _ (by omega) | exact wlin (by first | omega | (push_cast; omega)) (by omega) | exact wint (by omega) (by omega) | refine And.intro ?_ ?_ | refine Or.inr ?_)) (by (repeat' first | exact trivial | exact rfl | exact (by decide) | exact zerosI _ | exact zerosN _ | exact OfRaw.rows (by omega) | exact Or.inl (And.intro rfl rfl) | refine And.intro ?_ ?_ | refine Exists.intro _ (Exists.intro _ (And.intro rfl (And.intro (by decide) ?_))))) rfl rfl rfl (by kernel_rfl) rfl rfl rfl ?_)
      rintro -
      refine ⟨_, _, rfl, ⟨.inl rfl, .inr ⟨rfl, _, _, _, _, _, _, rfl, rfl, rfl, rfl, rfl⟩, trivial⟩, ?_⟩
      refine Rn.appN zB 1000 rfl (arr nC (ends ++ [2 * ps.length])) (Src.raw rfl rfl (cells_n eN hE.1)) (Src.ex rfl rfl rfl (cells_one eN (2 * ps.length))) ((arr_append _ _).symm) rfl (k + 1) (by first | rfl | omega | (simp; done) | (simp; omega)) (by omega) rfl (by omega) rfl rfl ?_
      refine Rn.again zB 1000 rfl ((k + 1, ps ++ [Pipe.mk (2 + ss.length + k) 1 (vOf vs k) 0], _, ends ++ [2 * ps.length], draws)) [some 0, some 1, some 2, some 3, some 4, some 5, some 6, some 11, some 13, some 9] (by dsimp only; omega) (⟨hlt, hrt, by dsimp only; simp; omega, O4, hE.snoc, hD.more _, by dsimp only; omega, by dsimp only; rw [hPr, range_flat]⟩) ⟨rfl, rfl, rfl, rfl, rfl, by (repeat' first | exact trivial | exact rfl | exact Or.inl (And.intro rfl rfl) | exact wsucc _ (by omega) | exact wlin (by first | omega | (push_cast; omega)) (by omega) | exact wint (by omega) (by omega) | refine And.intro ?_ ?_ | refine Or.inr ?_), by (repeat' first | exact trivial | exact rfl | exact (by decide) | exact zerosI _ | exact zerosN _ | exact OfRaw.rows (by omega) | exact Or.inl (And.intro rfl rfl) | refine And.intro ?_ ?_ | refine Exists.intro _ (Exists.intro _ (And.intro rfl (And.intro (by decide) ?_))))⟩
  · have hk : k = rs.length := by simp at hlt; omega
    subst hk
    subst hps
    refine Rn.out zB 1000 rfl rfl ?_
    refine Rn.fin zB 1000 rfl rfl rfl ⟨(out, ends, draws), O, hE, hD, hPr⟩ [some 0, some 1, some 2, some 3, some 5, some 7, some 6, some 8, some 9] rfl rfl ?_ ?_ rfl rfl rfl
    · (repeat' first | exact trivial | exact rfl | exact Or.inl (And.intro rfl rfl) | exact wsucc _ (by omega) | exact wlin (by first | omega | (push_cast; omega)) (by omega) | exact wint (by omega) (by omega) | refine And.intro ?_ ?_ | refine Or.inr ?_)
    · (repeat' first | exact trivial | exact rfl | exact (by decide) | exact zerosI _ | exact zerosN _ | exact OfRaw.rows (by omega) | exact Or.inl (And.intro rfl rfl) | refine And.intro ?_ ?_ | refine Exists.intro _ (Exists.intro _ (And.intro rfl (And.intro (by decide) ?_))))
theorem c_lay (rs : List Rt) (ss : List Su) (po : List Po) (f1 f2 f3 fv : Bool) (vs : List Int) (hr : rs.length ≤ 32) (hs : ss.length ≤ 64) (hp : po.length < 1152921504606846976) (hv : vs.length = rs.length) :
    Ct envB 71 [shA rs.length ss.length po.length f1 f2 f3, slA 3 0 rs.length fv 1] (shB rs ss po ++ [⟨3, false, none, .raw (arr iC vs)⟩]) 4 { r : List (List Nat) × List Nat × List (Nat × Nat × Nat) // LayRes rs ss po vs r.1 r.2.1 r.2.2 }
      (fun _ => .one (.ptr (some (4, 0)))) (fun a => [⟨4, true, none, .ex (planC 5 (2 * (layP rs ss po (vOf vs) rs.length).length) 6 (2 + ss.length + rs.length) false true 7 rs.length false 8 a.1.2.2.length false)⟩, ⟨5, true, none, .raw (arr arcC (arcsOf (layP rs ss po (vOf vs) rs.length)))⟩, ⟨6, true, none, .res (rows a.1.1)⟩, ⟨7, true, none, .raw (arr nC a.1.2.1)⟩, ⟨8, true, none, .raw (arr dwC a.1.2.2)⟩]) (fun _ => 9) := c_layX rs rs (fun _ _ h => h) ss po f1 f2 f3 fv vs hr hs hp hv
end Go.AM
