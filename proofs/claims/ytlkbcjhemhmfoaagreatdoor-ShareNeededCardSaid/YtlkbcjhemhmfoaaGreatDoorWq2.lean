/- Walks: the specification's search. -/
import Derived.Test.YtlkbcjhemhmfoaaGreatDoorWq1
import Derived.Test.YtlkbcjhemhmfoaaGreatDoorMk
set_option linter.unusedSimpArgs false
set_option linter.unusedVariables false
namespace Go.AM
open Go Go.Proofs
open Snow (Pipe FdOK ShutAt)
set_option maxRecDepth 10000
set_option maxHeartbeats 1000000

section
variable {ps : List Pipe} {N : Nat} {byl : List Int} {line : List Nat} {i k u : Nat} {p : Pipe}
theorem fd_fwd (f : Snow.Fd ps N byl line) (hp : ps[i]? = some p) (hu : line[k]? = some u) (hfr : p.fr = u) (hto : byl[p.to]? = some (-1 - (ps.length : Int))) (hlt : p.now < p.most) : Snow.Fd ps N (byl.set p.to (i : Int)) (line ++ [p.to]) := by
  have hi := (List.getElem?_eq_some_iff.mp hp).1
  refine f.add hto (by omega) ⟨i, p, k, hp, (List.getElem?_eq_some_iff.mp hu).1, .inl ⟨?_, rfl, hlt, by rw [hfr]; exact hu⟩⟩
  rw [List.getElem?_set_self (List.getElem?_eq_some_iff.mp hto).1]
theorem fd_bwd (f : Snow.Fd ps N byl line) (hp : ps[i]? = some p) (hu : line[k]? = some u) (hto : p.to = u) (hfr : byl[p.fr]? = some (-1 - (ps.length : Int))) (hlt : 0 < p.now) : Snow.Fd ps N (byl.set p.fr (-1 - (i : Int))) (line ++ [p.fr]) := by
  have hi := (List.getElem?_eq_some_iff.mp hp).1
  refine f.add hfr (by omega) ⟨i, p, k, hp, (List.getElem?_eq_some_iff.mp hu).1, .inr ⟨?_, rfl, hlt, by rw [hto]; exact hu⟩⟩
  rw [List.getElem?_set_self (List.getElem?_eq_some_iff.mp hfr).1]
theorem fd_ll (f : Snow.Fd ps N byl line) : line.length ≤ N := by have := f.cnt; omega
end

theorem c_found (ps : List Pipe) (N : Nat) (f0 : Bool) (h0 : 0 < N) (hN : N < 90000000000) (hpl : ps.length < 90000000000) (hin : ∀ p ∈ ps, p.fr < N ∧ p.to < N) :
    Ct envB 153 [slA 0 0 ps.length f0 4, iA N] [⟨0, false, none, .raw (arr pipC ps)⟩] 1 { r : List Int × List Nat // FdOK ps N r.1 r.2 } (fun _ => slA 1 0 N false 1) (fun a => [⟨1, true, none, .raw (arr iC a.1.1)⟩]) (fun _ => 2) := by
  refine Ct.of zB (fn := Tryz.f153) (by kernel_rfl) (by kernel_rfl) rfl rfl ?_
  refine Rn.loop zB 1000 rfl (T := Nat) (fun t => N - t) (fun t => t ≤ N) (fun t => [(7, iA t), (6, slA 1 0 t false 1), (5, iA (-1 - (ps.length : Int))), (1, iA N), (0, slA 0 0 ps.length f0 4)]) (fun t => [⟨1, true, none, .raw (arr iC (List.replicate t (-1 - (ps.length : Int))))⟩, ⟨0, false, none, .raw (arr pipC ps)⟩]) (fun _ => 2) (0) [some 0, none] (Nat.zero_le _) ⟨rfl, rfl, rfl, rfl, rfl, by (repeat' first | exact trivial | exact rfl | exact Or.inl (And.intro rfl rfl) | exact wsucc _ (by omega) | exact wlin (by first | omega | (push_cast; omega)) (by omega) | exact wint (by omega) (by omega) | refine And.intro ?_ ?_ | refine Or.inr ?_), by (repeat' first | exact trivial | exact rfl | exact (by decide) | exact zerosI _ | exact zerosN _ | exact OfRaw.rows (by omega) | exact Or.inl (And.intro rfl rfl) | refine And.intro ?_ ?_ | refine Exists.intro _ (Exists.intro _ (And.intro rfl (And.intro (by decide) ?_))))⟩ ?_
  rintro t ht
  refine Rn.split zB 1000 rfl (fun hlt => ?_) (fun hlt => ?_)
  · have hlt : t < N := by simpa using hlt
    refine Rn.appN zB 1000 rfl (arr iC (List.replicate (t + 1) (-1 - (ps.length : Int)))) (Src.raw rfl rfl (cells_n eI (by simp))) (Src.ex rfl rfl rfl (cells_one eI (-1 - (ps.length : Int)))) ((by rw [← arr_append, ← List.replicate_succ'])) rfl (t + 1) (by first | rfl | omega | (simp; done) | (simp; omega)) (by omega) rfl (by omega) rfl rfl ?_
    refine Rn.again zB 1000 rfl (t + 1) [some 0, some 3] (by omega) (hlt) ⟨rfl, rfl, rfl, rfl, rfl, by (repeat' first | exact trivial | exact rfl | exact Or.inl (And.intro rfl rfl) | exact wsucc _ (by omega) | exact wlin (by first | omega | (push_cast; omega)) (by omega) | exact wint (by omega) (by omega) | refine And.intro ?_ ?_ | refine Or.inr ?_), by (repeat' first | exact trivial | exact rfl | exact (by decide) | exact zerosI _ | exact zerosN _ | exact OfRaw.rows (by omega) | exact Or.inl (And.intro rfl rfl) | refine And.intro ?_ ?_ | refine Exists.intro _ (Exists.intro _ (And.intro rfl (And.intro (by decide) ?_))))⟩
  have ht : t = N := by simp at hlt; omega
  subst ht
  refine Rn.out zB 1000 rfl rfl ?_
  refine Rn.ask zB 1000 rfl ⟨by omega, by omega⟩ ?_
  refine Rn.storeR zB 1000 rfl (StoreR.fld eI (i := 0) (f := 0) (a' := (ps.length : Int)) (show (List.replicate t (-1 - (ps.length : Int)))[0]? = some (-1 - (ps.length : Int)) by rw [List.getElem?_replicate, if_pos h0]) (by simp) (by omega) rfl) rfl ?_
  refine Rn.loop zB 1000 rfl (T := Nat × List Int × List Nat × Bool) (fun s => t - s.1) (fun s => s.1 ≤ s.2.2.1.length ∧ Snow.Fd ps t s.2.1 s.2.2.1 ∧ ∀ (r u : Nat), r < s.1 → s.2.2.1[r]? = some u → ShutAt ps s.2.2.1 u ps.length) (fun s => [(9, iA s.1), (8, slA 2 0 s.2.2.1.length s.2.2.2 1), (6, slA 1 0 t false 1), (5, iA (-1 - (ps.length : Int))), (1, iA t), (0, slA 0 0 ps.length f0 4)]) (fun s => [⟨2, true, none, .raw (arr nC s.2.2.1)⟩, ⟨1, true, none, .raw (arr iC s.2.1)⟩, ⟨0, false, none, .raw (arr pipC ps)⟩]) (fun _ => 3) ((0, (List.replicate t (-1 - (ps.length : Int))).set 0 (ps.length : Int), [0], true)) [some 0, some 1, some 2] (⟨Nat.zero_le _, Snow.Fd.start h0, fun r u h => absurd h (Nat.not_lt_zero r)⟩) ⟨rfl, rfl, rfl, rfl, rfl, by (repeat' first | exact trivial | exact rfl | exact Or.inl (And.intro rfl rfl) | exact wsucc _ (by omega) | exact wlin (by first | omega | (push_cast; omega)) (by omega) | exact wint (by omega) (by omega) | refine And.intro ?_ ?_ | refine Or.inr ?_), by (repeat' first | exact trivial | exact rfl | exact (by decide) | exact zerosI _ | exact zerosN _ | exact OfRaw.rows (by omega) | exact Or.inl (And.intro rfl rfl) | refine And.intro ?_ ?_ | refine Exists.intro _ (Exists.intro _ (And.intro rfl (And.intro (by decide) ?_))))⟩ ?_
  rintro ⟨k, byl, line, fl⟩ ⟨hk, F, hS⟩
  dsimp only at hk F hS
  refine Rn.split zB 1000 rfl (fun hlt => ?_) (fun hlt => ?_)
  · have hlt : k < line.length := by simpa using hlt
    obtain ⟨u, hu⟩ : ∃ u, line[k]? = some u := ⟨line[k], List.getElem?_eq_getElem hlt⟩
    refine Rn.loop zB 1000 rfl (T := Nat × List Int × List Nat × Bool) (fun s => ps.length - s.1) (fun s => s.1 ≤ ps.length ∧ Snow.Fd ps t s.2.1 s.2.2.1 ∧ s.2.2.1[k]? = some u ∧ ShutAt ps s.2.2.1 u s.1 ∧ ∀ (r u : Nat), r < k → s.2.2.1[r]? = some u → ShutAt ps s.2.2.1 u ps.length) (fun s => [(10, iA s.1), (9, iA k), (8, slA 2 0 s.2.2.1.length s.2.2.2 1), (6, slA 1 0 t false 1), (5, iA (-1 - (ps.length : Int))), (1, iA t), (0, slA 0 0 ps.length f0 4)]) (fun s => [⟨2, true, none, .raw (arr nC s.2.2.1)⟩, ⟨1, true, none, .raw (arr iC s.2.1)⟩, ⟨0, false, none, .raw (arr pipC ps)⟩]) (fun _ => 3) ((0, byl, line, fl)) [some 0, some 1, some 2] (⟨Nat.zero_le _, F, hu, fun j p h => absurd h (Nat.not_lt_zero j), hS⟩) ⟨rfl, rfl, rfl, rfl, rfl, by (repeat' first | exact trivial | exact rfl | exact Or.inl (And.intro rfl rfl) | exact wsucc _ (by omega) | exact wlin (by first | omega | (push_cast; omega)) (by omega) | exact wint (by omega) (by omega) | refine And.intro ?_ ?_ | refine Or.inr ?_), by (repeat' first | exact trivial | exact rfl | exact (by decide) | exact zerosI _ | exact zerosN _ | exact OfRaw.rows (by omega) | exact Or.inl (And.intro rfl rfl) | refine And.intro ?_ ?_ | refine Exists.intro _ (Exists.intro _ (And.intro rfl (And.intro (by decide) ?_))))⟩ ?_
    rintro ⟨i, byl, line, fl⟩ ⟨hi, F, hu, hC, hS⟩
    dsimp only at hi F hu hC hS
    refine Rn.split zB 1000 rfl (fun hli => ?_) (fun hli => ?_)
    · have hli : i < ps.length := by simpa using hli
      obtain ⟨p, hp⟩ : ∃ p, ps[i]? = some p := ⟨ps[i], List.getElem?_eq_getElem hli⟩
      obtain ⟨hfrN, htoN⟩ := hin p (List.mem_of_getElem? hp)
      refine Rn.ask zB 1000 rfl ⟨by first | omega | (dsimp only; omega), by first | omega | (dsimp only; omega)⟩ ?_
      refine Rn.loadR zB 1000 rfl (LoadR.elt ePip hp (by simp)) ?_
      refine Rn.draw zB 1000 [0, 1, 0, 0, 12, 28, 63, 127, 255, 255, 767, 2047, 4095, 255, 16383, 32767, 65535, 131071, 262143, 131071, 655359, 2097151, 4194303] rfl (by kernel_rfl) (by kernel_rfl) ?_
      have hkl := (List.getElem?_eq_some_iff.mp hu).1
      have hll := fd_ll F
      obtain ⟨y, hy⟩ : ∃ y, byl[p.to]? = some y := ⟨byl[p.to]'(by rw [F.len]; exact htoN), List.getElem?_eq_getElem _⟩
      refine Rn.cut [_] (T := List Int × List Nat × Bool) (fun s => Snow.Fd ps t s.1 s.2.1 ∧ (∃ e, s.2.1 = line ++ e) ∧ (p.fr = u → p.now < p.most → p.to ∈ s.2.1)) (fun s => [(11, .one (.ptr (some (3, 0)))), (10, iA i), (9, iA k), (8, slA 2 0 s.2.1.length s.2.2 1), (6, slA 1 0 t false 1), (5, iA (-1 - (ps.length : Int))), (1, iA t), (0, slA 0 0 ps.length f0 4)]) (fun s => [⟨3, true, none, .ex (pipC p)⟩, ⟨2, true, none, .raw (arr nC s.2.1)⟩, ⟨1, true, none, .raw (arr iC s.1)⟩, ⟨0, false, none, .raw (arr pipC ps)⟩]) (fun _ => 4) ?_ ?_
      · refine Rn.ask zB 1000 rfl ⟨by first | omega | (dsimp only; omega), by first | omega | (dsimp only; omega)⟩ ?_
        refine Rn.loadR zB 1000 rfl (LoadR.fld eN (f := 0) (v := .int .i64 u) hu (by simp) rfl rfl) ?_
        refine Rn.split zB 1000 rfl (fun hfr => ?_) (fun hfr => ?_)
        · have hfr : p.fr = u := by simp at hfr; omega
          refine Rn.ask zB 1000 rfl ⟨by omega, by omega⟩ ?_
          refine Rn.loadR zB 1000 rfl (LoadR.fld eI (f := 0) (v := .int .i64 y) hy (by simp) rfl rfl) ?_
          refine Rn.split zB 1000 rfl (fun hno => ?_) (fun hno => ?_)
          · have hno : y = -1 - (ps.length : Int) := by simpa using hno
            subst hno
            refine Rn.split zB 1000 rfl (fun hlt2 => ?_) (fun hlt2 => ?_)
            · have hlt2 : p.now < p.most := by simpa using hlt2
              have F2 := fd_fwd F hp hu hfr hy hlt2
              have hll2 := fd_ll F2
              refine Rn.ask zB 1000 rfl ⟨by omega, by omega⟩ ?_
              refine Rn.storeR zB 1000 rfl (StoreR.fld eI (f := 0) (a' := (i : Int)) hy (by simp) (by omega) rfl) rfl ?_
              cases fl with
              | true =>
                refine Rn.appF zB 1000 rfl (arr nC (line ++ [p.to])) (Src.raw rfl rfl (cells_all eN line)) (Src.ex rfl rfl rfl (cells_one eN p.to)) ((arr_append _ _).symm) rfl ((line ++ [p.to]).length) (by first | rfl | omega | (simp; done) | (simp; omega)) (by omega) rfl (by omega) (.inl rfl) rfl ?_
                refine Rn.cutEnd zB 1000 rfl ((byl.set p.to (i : Int), line ++ [p.to], false)) [some 0, some 1, some 5, some 3] (⟨F2, ⟨[p.to], rfl⟩, fun _ _ => by simp⟩) ⟨rfl, rfl, rfl, rfl, rfl, by (repeat' first | exact trivial | exact rfl | exact Or.inl (And.intro rfl rfl) | exact wsucc _ (by omega) | exact wlin (by first | omega | (push_cast; omega)) (by omega) | exact wint (by omega) (by omega) | refine And.intro ?_ ?_ | refine Or.inr ?_), by (repeat' first | exact trivial | exact rfl | exact (by decide) | exact zerosI _ | exact zerosN _ | exact OfRaw.rows (by omega) | exact Or.inl (And.intro rfl rfl) | refine And.intro ?_ ?_ | refine Exists.intro _ (Exists.intro _ (And.intro rfl (And.intro (by decide) ?_))))⟩
              | false =>
                refine Rn.appN zB 1000 rfl (arr nC (line ++ [p.to])) (Src.raw rfl rfl (cells_all eN line)) (Src.ex rfl rfl rfl (cells_one eN p.to)) ((arr_append _ _).symm) rfl ((line ++ [p.to]).length) (by first | rfl | omega | (simp; done) | (simp; omega)) (by omega) rfl (by omega) rfl rfl ?_
                refine Rn.cutEnd zB 1000 rfl ((byl.set p.to (i : Int), line ++ [p.to], false)) [some 0, some 1, some 5, some 3] (⟨F2, ⟨[p.to], rfl⟩, fun _ _ => by simp⟩) ⟨rfl, rfl, rfl, rfl, rfl, by (repeat' first | exact trivial | exact rfl | exact Or.inl (And.intro rfl rfl) | exact wsucc _ (by omega) | exact wlin (by first | omega | (push_cast; omega)) (by omega) | exact wint (by omega) (by omega) | refine And.intro ?_ ?_ | refine Or.inr ?_), by (repeat' first | exact trivial | exact rfl | exact (by decide) | exact zerosI _ | exact zerosN _ | exact OfRaw.rows (by omega) | exact Or.inl (And.intro rfl rfl) | refine And.intro ?_ ?_ | refine Exists.intro _ (Exists.intro _ (And.intro rfl (And.intro (by decide) ?_))))⟩
            · have hlt2 : ¬ p.now < p.most := by simpa using hlt2
              refine Rn.cutEnd zB 1000 rfl ((byl, line, fl)) [some 0, some 1, some 2, some 3] (⟨F, ⟨[], by simp⟩, fun _ h => absurd h hlt2⟩) ⟨rfl, rfl, rfl, rfl, rfl, by (repeat' first | exact trivial | exact rfl | exact Or.inl (And.intro rfl rfl) | exact wsucc _ (by omega) | exact wlin (by first | omega | (push_cast; omega)) (by omega) | exact wint (by omega) (by omega) | refine And.intro ?_ ?_ | refine Or.inr ?_), by (repeat' first | exact trivial | exact rfl | exact (by decide) | exact zerosI _ | exact zerosN _ | exact OfRaw.rows (by omega) | exact Or.inl (And.intro rfl rfl) | refine And.intro ?_ ?_ | refine Exists.intro _ (Exists.intro _ (And.intro rfl (And.intro (by decide) ?_))))⟩
          · have hno : y ≠ -1 - (ps.length : Int) := by simpa using hno
            repeat (refine Rn.split zB 1000 rfl (fun h => by cases h) (fun _ => ?_))
            refine Rn.cutEnd zB 1000 rfl ((byl, line, fl)) [some 0, some 1, some 2, some 3] (⟨F, ⟨[], by simp⟩, fun _ _ => (F.mem _ _ hy).2 hno⟩) ⟨rfl, rfl, rfl, rfl, rfl, by (repeat' first | exact trivial | exact rfl | exact Or.inl (And.intro rfl rfl) | exact wsucc _ (by omega) | exact wlin (by first | omega | (push_cast; omega)) (by omega) | exact wint (by omega) (by omega) | refine And.intro ?_ ?_ | refine Or.inr ?_), by (repeat' first | exact trivial | exact rfl | exact (by decide) | exact zerosI _ | exact zerosN _ | exact OfRaw.rows (by omega) | exact Or.inl (And.intro rfl rfl) | refine And.intro ?_ ?_ | refine Exists.intro _ (Exists.intro _ (And.intro rfl (And.intro (by decide) ?_))))⟩
        · have hfr : p.fr ≠ u := by simp at hfr; omega
          repeat (refine Rn.split zB 1000 rfl (fun h => by cases h) (fun _ => ?_))
          refine Rn.cutEnd zB 1000 rfl ((byl, line, fl)) [some 0, some 1, some 2, some 3] (⟨F, ⟨[], by simp⟩, fun h _ => absurd h hfr⟩) ⟨rfl, rfl, rfl, rfl, rfl, by (repeat' first | exact trivial | exact rfl | exact Or.inl (And.intro rfl rfl) | exact wsucc _ (by omega) | exact wlin (by first | omega | (push_cast; omega)) (by omega) | exact wint (by omega) (by omega) | refine And.intro ?_ ?_ | refine Or.inr ?_), by (repeat' first | exact trivial | exact rfl | exact (by decide) | exact zerosI _ | exact zerosN _ | exact OfRaw.rows (by omega) | exact Or.inl (And.intro rfl rfl) | refine And.intro ?_ ?_ | refine Exists.intro _ (Exists.intro _ (And.intro rfl (And.intro (by decide) ?_))))⟩
      · rintro ⟨byl1, line1, fl1⟩ ⟨F1, ⟨ext, hext⟩, hc1⟩
        dsimp only at F1 hext hc1
        have hu1 : line1[k]? = some u := by rw [hext, List.getElem?_append_left hkl]; exact hu
        have hmem1 : ∀ v ∈ line, v ∈ line1 := fun v hv => by rw [hext]; exact List.mem_append_left _ hv
        have hC1 := hC.mono hmem1
        have hS1 : ∀ (r w : Nat), r < k → line1[r]? = some w → ShutAt ps line1 w ps.length := fun r w hr hw => by
          rw [hext, List.getElem?_append_left (by omega)] at hw
          exact (hS r w hr hw).mono hmem1
        have hkl1 := (List.getElem?_eq_some_iff.mp hu1).1
        have hll1 := fd_ll F1
        obtain ⟨z, hz⟩ : ∃ z, byl1[p.fr]? = some z := ⟨byl1[p.fr]'(by rw [F1.len]; exact hfrN), List.getElem?_eq_getElem _⟩
        clear hext F hu hC hS hmem1 hy
        have fin : (p.to = u → 0 < p.now → p.fr ∈ line1) → i + 1 ≤ ps.length ∧ Snow.Fd ps t byl1 line1 ∧ line1[k]? = some u ∧ ShutAt ps line1 u (i + 1) ∧ ∀ (r w : Nat), r < k → line1[r]? = some w → ShutAt ps line1 w ps.length := fun h => ⟨hli, F1, hu1, hC1.next hp hc1 h, hS1⟩
        refine Rn.draw zB 1000 [0, 1, 0, 0, 12, 28, 63, 127, 255, 255, 767, 2047, 4095, 255, 16383, 32767, 65535, 131071, 262143, 524287, 1048575] rfl (by kernel_rfl) (by kernel_rfl) ?_
        refine Rn.ask zB 1000 rfl ⟨by first | omega | (dsimp only; omega), by first | omega | (dsimp only; omega)⟩ ?_
        refine Rn.loadR zB 1000 rfl (LoadR.fld eN (f := 0) (v := .int .i64 u) hu1 (by simp) rfl rfl) ?_
        refine Rn.split zB 1000 rfl (fun hto => ?_) (fun hto => ?_)
        · have hto : p.to = u := by simp at hto; omega
          refine Rn.ask zB 1000 rfl ⟨by first | omega | (dsimp only; omega), by first | omega | (dsimp only; omega)⟩ ?_
          refine Rn.loadR zB 1000 rfl (LoadR.fld eI (f := 0) (v := .int .i64 z) hz (by simp) rfl rfl) ?_
          refine Rn.split zB 1000 rfl (fun hno => ?_) (fun hno => ?_)
          · have hno : z = -1 - (ps.length : Int) := by simpa using hno
            subst hno
            refine Rn.split zB 1000 rfl (fun hlt2 => ?_) (fun hlt2 => ?_)
            · have hlt2 : 0 < p.now := by simpa using hlt2
              have F2 := fd_bwd F1 hp hu1 hto hz hlt2
              have hll2 := fd_ll F2
              have hm2 : ∀ v ∈ line1, v ∈ line1 ++ [p.fr] := fun v hv => List.mem_append_left _ hv
              have fin2 : i + 1 ≤ ps.length ∧ Snow.Fd ps t (byl1.set p.fr (-1 - (i : Int))) (line1 ++ [p.fr]) ∧ (line1 ++ [p.fr])[k]? = some u ∧ ShutAt ps (line1 ++ [p.fr]) u (i + 1) ∧ ∀ (r w : Nat), r < k → (line1 ++ [p.fr])[r]? = some w → ShutAt ps (line1 ++ [p.fr]) w ps.length :=
                ⟨hli, F2, by rw [List.getElem?_append_left hkl1]; exact hu1, (hC1.mono hm2).next hp (fun h h' => hm2 _ (hc1 h h')) (fun _ _ => by simp), fun r w hr hw => by
                  rw [List.getElem?_append_left (by omega)] at hw
                  exact (hS1 r w hr hw).mono hm2⟩
              refine Rn.ask zB 1000 rfl ⟨by first | omega | (dsimp only; omega), by first | omega | (dsimp only; omega)⟩ ?_
              refine Rn.storeR zB 1000 rfl (StoreR.fld eI (f := 0) (a' := -1 - (i : Int)) hz (by simp) (by omega) (by rw [wint (by omega) (by omega)]; rfl)) rfl ?_
              cases fl1 with
              | true =>
                refine Rn.appF zB 1000 rfl (arr nC (line1 ++ [p.fr])) (Src.raw rfl rfl (cells_all eN line1)) (Src.ex rfl rfl rfl (cells_one eN p.fr)) ((arr_append _ _).symm) rfl ((line1 ++ [p.fr]).length) (by first | rfl | omega | (simp; done) | (simp; omega)) (by omega) rfl (by omega) (.inl rfl) rfl ?_
                refine Rn.again zB 1000 rfl ((i + 1, byl1.set p.fr (-1 - (i : Int)), line1 ++ [p.fr], false)) [some 0, some 1, some 5] (by dsimp only; omega) (fin2) ⟨rfl, rfl, rfl, rfl, rfl, by (repeat' first | exact trivial | exact rfl | exact Or.inl (And.intro rfl rfl) | exact wsucc _ (by omega) | exact wlin (by first | omega | (push_cast; omega)) (by omega) | exact wint (by omega) (by omega) | refine And.intro ?_ ?_ | refine Or.inr ?_), by (repeat' first | exact trivial | exact rfl | exact (by decide) | exact zerosI _ | exact zerosN _ | exact OfRaw.rows (by omega) | exact Or.inl (And.intro rfl rfl) | refine And.intro ?_ ?_ | refine Exists.intro _ (Exists.intro _ (And.intro rfl (And.intro (by decide) ?_))))⟩
              | false =>
                refine Rn.appN zB 1000 rfl (arr nC (line1 ++ [p.fr])) (Src.raw rfl rfl (cells_all eN line1)) (Src.ex rfl rfl rfl (cells_one eN p.fr)) ((arr_append _ _).symm) rfl ((line1 ++ [p.fr]).length) (by first | rfl | omega | (simp; done) | (simp; omega)) (by omega) rfl (by omega) rfl rfl ?_
                refine Rn.again zB 1000 rfl ((i + 1, byl1.set p.fr (-1 - (i : Int)), line1 ++ [p.fr], false)) [some 0, some 1, some 5] (by dsimp only; omega) (fin2) ⟨rfl, rfl, rfl, rfl, rfl, by (repeat' first | exact trivial | exact rfl | exact Or.inl (And.intro rfl rfl) | exact wsucc _ (by omega) | exact wlin (by first | omega | (push_cast; omega)) (by omega) | exact wint (by omega) (by omega) | refine And.intro ?_ ?_ | refine Or.inr ?_), by (repeat' first | exact trivial | exact rfl | exact (by decide) | exact zerosI _ | exact zerosN _ | exact OfRaw.rows (by omega) | exact Or.inl (And.intro rfl rfl) | refine And.intro ?_ ?_ | refine Exists.intro _ (Exists.intro _ (And.intro rfl (And.intro (by decide) ?_))))⟩
            · have hlt2 : ¬ 0 < p.now := by simpa using hlt2
              refine Rn.again zB 1000 rfl ((i + 1, byl1, line1, fl1)) [some 0, some 1, some 2] (by dsimp only; omega) (fin fun _ h => absurd h hlt2) ⟨rfl, rfl, rfl, rfl, rfl, by (repeat' first | exact trivial | exact rfl | exact Or.inl (And.intro rfl rfl) | exact wsucc _ (by omega) | exact wlin (by first | omega | (push_cast; omega)) (by omega) | exact wint (by omega) (by omega) | refine And.intro ?_ ?_ | refine Or.inr ?_), by (repeat' first | exact trivial | exact rfl | exact (by decide) | exact zerosI _ | exact zerosN _ | exact OfRaw.rows (by omega) | exact Or.inl (And.intro rfl rfl) | refine And.intro ?_ ?_ | refine Exists.intro _ (Exists.intro _ (And.intro rfl (And.intro (by decide) ?_))))⟩
          · have hno : z ≠ -1 - (ps.length : Int) := by simpa using hno
            repeat (refine Rn.split zB 1000 rfl (fun h => by cases h) (fun _ => ?_))
            refine Rn.again zB 1000 rfl ((i + 1, byl1, line1, fl1)) [some 0, some 1, some 2] (by dsimp only; omega) (fin fun _ _ => (F1.mem _ _ hz).2 hno) ⟨rfl, rfl, rfl, rfl, rfl, by (repeat' first | exact trivial | exact rfl | exact Or.inl (And.intro rfl rfl) | exact wsucc _ (by omega) | exact wlin (by first | omega | (push_cast; omega)) (by omega) | exact wint (by omega) (by omega) | refine And.intro ?_ ?_ | refine Or.inr ?_), by (repeat' first | exact trivial | exact rfl | exact (by decide) | exact zerosI _ | exact zerosN _ | exact OfRaw.rows (by omega) | exact Or.inl (And.intro rfl rfl) | refine And.intro ?_ ?_ | refine Exists.intro _ (Exists.intro _ (And.intro rfl (And.intro (by decide) ?_))))⟩
        · have hto : p.to ≠ u := by simp at hto; omega
          repeat (refine Rn.split zB 1000 rfl (fun h => by cases h) (fun _ => ?_))
          refine Rn.again zB 1000 rfl ((i + 1, byl1, line1, fl1)) [some 0, some 1, some 2] (by dsimp only; omega) (fin fun h _ => absurd h hto) ⟨rfl, rfl, rfl, rfl, rfl, by (repeat' first | exact trivial | exact rfl | exact Or.inl (And.intro rfl rfl) | exact wsucc _ (by omega) | exact wlin (by first | omega | (push_cast; omega)) (by omega) | exact wint (by omega) (by omega) | refine And.intro ?_ ?_ | refine Or.inr ?_), by (repeat' first | exact trivial | exact rfl | exact (by decide) | exact zerosI _ | exact zerosN _ | exact OfRaw.rows (by omega) | exact Or.inl (And.intro rfl rfl) | refine And.intro ?_ ?_ | refine Exists.intro _ (Exists.intro _ (And.intro rfl (And.intro (by decide) ?_))))⟩
    · have hli : i = ps.length := by simp at hli; omega
      subst hli
      refine Rn.out zB 1000 rfl rfl ?_
      have hll3 := fd_ll F
      have hkl3 := (List.getElem?_eq_some_iff.mp hu).1
      refine Rn.again zB 1000 rfl ((k + 1, byl, line, fl)) [some 0, some 1, some 2] (by dsimp only; omega) (⟨hkl3, F, fun r w hr hw => by
        by_cases e : r = k
        · subst e; rw [hu] at hw; injection hw with hw; subst hw; exact hC
        · exact hS r w (by dsimp only at hr; omega) hw⟩) ⟨rfl, rfl, rfl, rfl, rfl, by (repeat' first | exact trivial | exact rfl | exact Or.inl (And.intro rfl rfl) | exact wsucc _ (by omega) | exact wlin (by first | omega | (push_cast; omega)) (by omega) | exact wint (by omega) (by omega) | refine And.intro ?_ ?_ | refine Or.inr ?_), by (repeat' first | exact trivial | exact rfl | exact (by decide) | exact zerosI _ | exact zerosN _ | exact OfRaw.rows (by omega) | exact Or.inl (And.intro rfl rfl) | refine And.intro ?_ ?_ | refine Exists.intro _ (Exists.intro _ (And.intro rfl (And.intro (by decide) ?_))))⟩
  · have hlt : k = line.length := by simp at hlt; omega
    subst hlt
    refine Rn.out zB 1000 rfl rfl ?_
    refine Rn.fin zB 1000 rfl rfl rfl ⟨(byl, line), ⟨F, fun w hw => by
      obtain ⟨r, hr⟩ := List.getElem?_of_mem hw
      exact hS r w (List.getElem?_eq_some_iff.mp hr).1 hr⟩⟩ [some 0, some 1] rfl rfl ?_ ?_ rfl rfl rfl
    · (repeat' first | exact trivial | exact rfl | exact Or.inl (And.intro rfl rfl) | exact wsucc _ (by omega) | exact wlin (by first | omega | (push_cast; omega)) (by omega) | exact wint (by omega) (by omega) | refine And.intro ?_ ?_ | refine Or.inr ?_)
    · (repeat' first | exact trivial | exact rfl | exact (by decide) | exact zerosI _ | exact zerosN _ | exact OfRaw.rows (by omega) | exact Or.inl (And.intro rfl rfl) | refine And.intro ?_ ?_ | refine Exists.intro _ (Exists.intro _ (And.intro rfl (And.intro (by decide) ?_))))
end Go.AM
