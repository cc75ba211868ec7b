/- Walks: levels. -/
import Derived.Test.YtlkbcjhemhmfoaaGreatDoorWn1
set_option linter.unusedSimpArgs false
set_option linter.unusedVariables false
namespace Go.AM
open Go Go.Proofs
open Snow (Arc Pipe Bf LevOK ClosedTo)
set_option maxRecDepth 10000
set_option maxHeartbeats 1000000

section
variable {X : Env} {nt k : Nat} {K : KC} {F : Fo} {S : List Kt} {st st1 st2 : St}
theorem Rn.loadRow (hz : ZeroFlat X) (n : Nat) {s : Res} {w : Bool} {off m : Nat} {agg : Bool} {q : Nat} {full : Bool} {sz : Nat} {c : List Sc} {r : Rs} (hx : exec X nt n F S st = some (.loadS s w off m agg r st1)) (hw : w = false) (hm : m = 1) (ha : agg = false) (h1 : LoadRow s off q full sz c) (h2 : rowSt r.C c st1 = some st2)
    (h3 : Rn X nt k (.put r.C r.o.dst (.one (.sl (some (st1.nb, 0)) q full sz)) r.rest r.i) r.S st2 K) : Rn X nt k F S st K := ⟨Run.step hz n hx (.inr ⟨hw, hm, ha, q, full, sz, c, h1, st2, h2, h3.run⟩)⟩
end
theorem cells_from (xs : List Nat) (off : Nat) (h : off ≤ xs.length) : CellsR (arr nC xs) off ((xs.length - off) * 1) (arr nC (xs.drop off)) := by
  refine ⟨by rw [arr_len eN]; omega, ?_⟩
  have := arr_drop eN xs off
  rw [Nat.mul_one] at this
  rw [this, List.take_of_length_le (by rw [arr_len eN]; simp)]
/-- A network that can be walked. -/
structure NetOK (out : List (List Nat)) (arcs : List Arc) : Prop where
  two : 1 < out.length
  hb : arcs.length < 90000000000
  ho : out.length < 90000000000
  rb : ∀ row ∈ out, row.length ≤ arcs.length
  kb : ∀ row ∈ out, ∀ k ∈ row, k < arcs.length
  tb : ∀ a ∈ arcs, a.to < out.length
  bb : ∀ a ∈ arcs, a.back < arcs.length

theorem c_levels (arcs : List Arc) (out : List (List Nat)) (fa fo : Bool) (ne nd : Nat) (fe fd : Bool) (N : NetOK out arcs) :
    Ct envB 83 [.one (.ptr (some (0, 0)))] [⟨0, false, none, .ex (planC 1 arcs.length 2 out.length fa fo 3 ne fe 4 nd fd)⟩, ⟨1, false, none, .raw (arr arcC arcs)⟩, ⟨2, false, none, .res (rows out)⟩] 5 { lev : List Int // LevOK out arcs lev }
      (fun _ => slA 5 0 out.length true 1) (fun a => [⟨5, true, none, .raw (arr iC a.1)⟩]) (fun _ => 6) := by
  have n2 := N.two
  have nb := N.ho
  have ab := N.hb
  refine Ct.of zB (fn := Tryz.f83) (by kernel_rfl) (by kernel_rfl) rfl rfl ?_
  refine Rn.ask zB 1000 rfl ⟨by omega, rfl, by show (8 : Int) * _ ≤ _; omega, by omega⟩ ?_
  refine Rn.loop zB 1000 rfl (T := Nat × List Int) (fun t => out.length - t.1) (fun t => t.1 ≤ out.length ∧ t.2.length = out.length ∧ ∀ j x, j < t.1 → t.2[j]? = some x → x = -1) (fun t => [(18, .one (.int .i64 t.1)), (17, .one (.int .i64 out.length)), (3, slA 5 0 out.length true 1), (0, .one (.ptr (some (0, 0))))]) (fun t => [⟨5, true, none, .raw (arr iC t.2)⟩, ⟨0, false, none, .ex (planC 1 arcs.length 2 out.length fa fo 3 ne fe 4 nd fd)⟩, ⟨1, false, none, .raw (arr arcC arcs)⟩, ⟨2, false, none, .res (rows out)⟩]) (fun _ => 6) ((0, List.replicate out.length 0)) [some 0, some 1, some 2, some 3, some 4, some 5] ⟨Nat.zero_le _, by simp, fun j x h => absurd h (Nat.not_lt_zero j)⟩ ⟨rfl, rfl, rfl, rfl, rfl, by (repeat' first | exact trivial | exact rfl | exact Or.inl (And.intro rfl rfl) | exact wsucc _ (by omega) | refine And.intro ?_ ?_ | refine Or.inr ?_), by (repeat' first | exact trivial | exact rfl | exact (by decide) | exact zerosI _ | exact OfRaw.rows (by omega) | exact Or.inl (And.intro rfl rfl) | refine And.intro ?_ ?_ | refine Exists.intro _ (Exists.intro _ (And.intro rfl (And.intro (by decide) ?_))))⟩ ?_
  rintro ⟨i, l⟩ ⟨hi, hl, hneg⟩
  dsimp only at hi hl hneg
  refine Rn.split zB 1000 rfl (fun h => ?_) (fun h => ?_)
  · have hlt : i < out.length := by simpa using h
    refine Rn.ask zB 1000 rfl ⟨by first | omega | (dsimp only; omega), by first | omega | (dsimp only; omega)⟩ ?_
    refine Rn.storeR zB 1000 rfl (StoreR.fld eI (f := 0) (a' := -1) (List.getElem?_eq_getElem (by rw [hl]; exact hlt)) (by simp) (by omega) rfl) rfl ?_
    refine Rn.again zB 1000 rfl ((i + 1, l.set i (-1))) [some 0, some 1, some 2, some 3, some 4, some 5] (by dsimp only; omega) ⟨by omega, by simp [hl], fun j x hj hx => by
      rcases setGet hx with ⟨_, e⟩ | ⟨e, hx⟩
      · exact e
      · exact hneg j x (by dsimp only at hj; omega) hx⟩ ⟨rfl, rfl, rfl, rfl, rfl, by (repeat' first | exact trivial | exact rfl | exact Or.inl (And.intro rfl rfl) | exact wsucc _ (by omega) | refine And.intro ?_ ?_ | refine Or.inr ?_), by (repeat' first | exact trivial | exact rfl | exact (by decide) | exact zerosI _ | exact OfRaw.rows (by omega) | exact Or.inl (And.intro rfl rfl) | refine And.intro ?_ ?_ | refine Exists.intro _ (Exists.intro _ (And.intro rfl (And.intro (by decide) ?_))))⟩
  have hge : i = out.length := by simp at h; omega
  have hlr : l = List.replicate out.length (-1) := by
    apply List.ext_getElem?
    intro j
    rw [List.getElem?_replicate]
    by_cases hj : j < out.length
    · rw [if_pos hj, List.getElem?_eq_getElem (by omega), hneg j _ (by omega) (List.getElem?_eq_getElem (by omega))]
    · rw [if_neg hj, List.getElem?_eq_none (by omega)]
  refine Rn.out zB 1000 rfl rfl ?_
  refine Rn.ask zB 1000 rfl ⟨by first | omega | (dsimp only; omega), by first | omega | (dsimp only; omega)⟩ ?_
  refine Rn.storeR zB 1000 rfl (StoreR.fld eI (i := 0) (f := 0) (a' := 0) (show l[0]? = some (l[0]'(by omega)) from List.getElem?_eq_getElem _) (by simp) (by omega) rfl) rfl ?_
  refine Rn.loop zB 1000 rfl (T := List Int × List Nat × Nat × Bool) (fun t => 2 * Snow.unv t.1 + (t.2.1.length - t.2.2.1)) (fun t => t.2.2.1 ≤ t.2.1.length ∧ (t.2.1.length ≤ out.length ∧ Snow.unv t.1 + (t.2.1.length - t.2.2.1) ≤ out.length) ∧ Bf out arcs t.1 (t.2.1.drop t.2.2.1) (fun _ => False)) (fun t => [(5, slA 6 t.2.2.1 (t.2.1.length - t.2.2.1) t.2.2.2 1), (3, slA 5 0 out.length true 1), (0, .one (.ptr (some (0, 0))))]) (fun t => [⟨6, true, none, .raw (arr nC t.2.1)⟩, ⟨5, true, none, .raw (arr iC t.1)⟩, ⟨0, false, none, .ex (planC 1 arcs.length 2 out.length fa fo 3 ne fe 4 nd fd)⟩, ⟨1, false, none, .raw (arr arcC arcs)⟩, ⟨2, false, none, .res (rows out)⟩]) (fun _ => 7) ((l.set 0 0, [0], 0, true)) [some 0, some 1, some 2, some 3, some 4, some 5, some 6] ⟨by simp, ⟨by simp; omega, by have B0 := Bf.start (arcs := arcs) n2; rw [← hlr] at B0; have := B0.hi 0 0 B0.src; simp; omega⟩, by rw [hlr]; exact Bf.start n2⟩ ⟨rfl, rfl, rfl, rfl, rfl, by (repeat' first | exact trivial | exact rfl | exact Or.inl (And.intro rfl rfl) | exact wsucc _ (by omega) | refine And.intro ?_ ?_ | refine Or.inr ?_), by (repeat' first | exact trivial | exact rfl | exact (by decide) | exact zerosI _ | exact OfRaw.rows (by omega) | exact Or.inl (And.intro rfl rfl) | refine And.intro ?_ ?_ | refine Exists.intro _ (Exists.intro _ (And.intro rfl (And.intro (by decide) ?_))))⟩ ?_
  rintro ⟨lev, xs, off, full⟩ ⟨ho, ⟨hx, hun0⟩, B⟩
  dsimp only at ho hx hun0 B
  refine Rn.split zB 1000 rfl (fun hpos => ?_) (fun hpos => ?_)
  · have hpos : off < xs.length := by simp at hpos; omega
    obtain ⟨u, hu⟩ : ∃ u, xs[off]? = some u := ⟨xs[off], List.getElem?_eq_getElem hpos⟩
    have hd : xs.drop off = u :: xs.drop (off + 1) := by
      obtain ⟨h1, h2⟩ := List.getElem?_eq_some_iff.mp hu
      rw [List.drop_eq_getElem_cons h1, h2]
    rw [hd] at B
    obtain ⟨la, hla, hla0⟩ := B.q u List.mem_cons_self
    have hun : u < out.length := by rw [← B.len]; exact (List.getElem?_eq_some_iff.mp hla).1
    obtain ⟨row, hrow⟩ : ∃ row, out[u]? = some row := ⟨out[u], List.getElem?_eq_getElem hun⟩
    have hrb := N.rb row (List.mem_of_getElem? hrow)
    have hkb := N.kb row (List.mem_of_getElem? hrow)
    have B := B.pop
    refine Rn.ask zB 1000 rfl ⟨by first | omega | (dsimp only; omega), by first | omega | (dsimp only; omega)⟩ ?_
    refine Rn.loadR zB 1000 rfl (LoadR.fld eN (f := 0) (v := .int .i64 u) hu (by simp) rfl rfl) ?_
    refine Rn.ask zB 1000 rfl ⟨by first | omega | (dsimp only; omega), by first | omega | (dsimp only; omega), by first | omega | (dsimp only; omega), by first | omega | (dsimp only; omega)⟩ ?_
    refine Rn.ask zB 1000 rfl ⟨by first | omega | (dsimp only; omega), by first | omega | (dsimp only; omega)⟩ ?_
    refine Rn.loadRow zB 1000 rfl rfl rfl rfl (LoadRow.rows hrow (offN _)) rfl ?_
    refine Rn.loop zB 1000 rfl (T := Nat × List Int × List Nat × Nat × Bool) (fun t => row.length - t.1) (fun t => t.1 ≤ row.length ∧ t.2.2.2.1 ≤ t.2.2.1.length ∧ (t.2.2.1.length ≤ out.length ∧ Snow.unv t.2.1 + (t.2.2.1.length - t.2.2.2.1) ≤ out.length) ∧ Bf out arcs t.2.1 (t.2.2.1.drop t.2.2.2.1) (· = u) ∧ ClosedTo arcs t.2.1 row t.1 ∧ t.2.1[u]? = some la ∧ 2 * Snow.unv t.2.1 + (t.2.2.1.length - t.2.2.2.1) < 2 * Snow.unv lev + (xs.length - off)) (fun t => [(44, .one (.int .i64 t.1)), (43, .one (.int .i64 row.length)), (42, slA 7 0 row.length false 1), (6, .one (.int .i64 u)), (5, slA 6 t.2.2.2.1 (t.2.2.1.length - t.2.2.2.1) t.2.2.2.2 1), (3, slA 5 0 out.length true 1), (0, .one (.ptr (some (0, 0))))]) (fun t => [⟨7, false, none, .raw (arr nC row)⟩, ⟨6, true, none, .raw (arr nC t.2.2.1)⟩, ⟨5, true, none, .raw (arr iC t.2.1)⟩, ⟨0, false, none, .ex (planC 1 arcs.length 2 out.length fa fo 3 ne fe 4 nd fd)⟩, ⟨1, false, none, .raw (arr arcC arcs)⟩, ⟨2, false, none, .res (rows out)⟩]) (fun _ => 8) ((0, lev, xs, off + 1, full)) [some 0, some 1, some 2, some 3, some 4, some 5, some 6, some 7] ⟨Nat.zero_le _, hpos, ⟨hx, by dsimp only; omega⟩, B, fun j k a y h => absurd h (Nat.not_lt_zero j), hla, by dsimp only; omega⟩ ⟨rfl, rfl, rfl, rfl, rfl, by (repeat' first | exact trivial | exact rfl | exact Or.inl (And.intro rfl rfl) | exact wsucc _ (by omega) | refine And.intro ?_ ?_ | refine Or.inr ?_), by (repeat' first | exact trivial | exact rfl | exact (by decide) | exact zerosI _ | exact OfRaw.rows (by omega) | exact Or.inl (And.intro rfl rfl) | refine And.intro ?_ ?_ | refine Exists.intro _ (Exists.intro _ (And.intro rfl (And.intro (by decide) ?_))))⟩ ?_
    rintro ⟨i, lv, ys, of, fl⟩ ⟨hi2, ho2, ⟨hx2, hun2⟩, B2, C2, hla2, hm2⟩
    dsimp only at hi2 ho2 hx2 hun2 B2 C2 hla2 hm2
    refine Rn.split zB 1000 rfl (fun hlt => ?_) (fun hlt => ?_)
    · have hlt : i < row.length := by simpa using hlt
      obtain ⟨k, hk⟩ : ∃ k, row[i]? = some k := ⟨row[i], List.getElem?_eq_getElem hlt⟩
      have hka := hkb k (List.mem_of_getElem? hk)
      obtain ⟨a, ha⟩ : ∃ a, arcs[k]? = some a := ⟨arcs[k], List.getElem?_eq_getElem hka⟩
      have hat := N.tb a (List.mem_of_getElem? ha)
      obtain ⟨y, hy⟩ : ∃ y, lv[a.to]? = some y := ⟨lv[a.to]'(by rw [B2.len]; exact hat), List.getElem?_eq_getElem _⟩
      refine Rn.ask zB 1000 rfl ⟨by first | omega | (dsimp only; omega), by first | omega | (dsimp only; omega)⟩ ?_
      refine Rn.loadR zB 1000 rfl (LoadR.fld eN (f := 0) (v := .int .i64 k) hk (by simp) rfl rfl) ?_
      refine Rn.ask zB 1000 rfl ⟨by first | omega | (dsimp only; omega), by first | omega | (dsimp only; omega)⟩ ?_
      refine Rn.loadR zB 1000 rfl (LoadR.elt eArc ha (by simp)) ?_
      refine Rn.split zB 1000 rfl (fun hr => ?_) (fun hr => ?_)
      · have hr : a.room = 0 := by simpa using hr
        refine Rn.split zB 1000 rfl (fun h => ?_) (fun h => ?_)
        · refine Rn.again zB 1000 rfl ((i + 1, lv, ys, of, fl)) [some 0, some 1, some 2, some 3, some 4, some 5, some 6, some 7] (by dsimp only; omega) ⟨hlt, ho2, ⟨hx2, hun2⟩, B2, C2.next hk ha (.inl hr), hla2, hm2⟩ ⟨rfl, rfl, rfl, rfl, rfl, by (repeat' first | exact trivial | exact rfl | exact Or.inl (And.intro rfl rfl) | exact wsucc _ (by omega) | refine And.intro ?_ ?_ | refine Or.inr ?_), by (repeat' first | exact trivial | exact rfl | exact (by decide) | exact zerosI _ | exact OfRaw.rows (by omega) | exact Or.inl (And.intro rfl rfl) | refine And.intro ?_ ?_ | refine Exists.intro _ (Exists.intro _ (And.intro rfl (And.intro (by decide) ?_))))⟩
        · cases h
      · have hr : a.room ≠ 0 := by simpa using hr
        refine Rn.ask zB 1000 rfl ⟨by omega, by omega⟩ ?_
        refine Rn.loadR zB 1000 rfl (LoadR.fld eI (f := 0) (v := .int .i64 y) hy (by simp) rfl rfl) ?_
        refine Rn.split zB 1000 rfl (fun hge0 => ?_) (fun hge0 => ?_)
        · have hge0 : 0 ≤ y := by simpa using hge0
          refine Rn.again zB 1000 rfl ((i + 1, lv, ys, of, fl)) [some 0, some 1, some 2, some 3, some 4, some 5, some 6, some 7] (by dsimp only; omega) ⟨hlt, ho2, ⟨hx2, hun2⟩, B2, C2.next hk ha (.inr fun z hz => by rw [hy] at hz; injection hz with hz; omega), hla2, hm2⟩ ⟨rfl, rfl, rfl, rfl, rfl, by (repeat' first | exact trivial | exact rfl | exact Or.inl (And.intro rfl rfl) | exact wsucc _ (by omega) | refine And.intro ?_ ?_ | refine Or.inr ?_), by (repeat' first | exact trivial | exact rfl | exact (by decide) | exact zerosI _ | exact OfRaw.rows (by omega) | exact Or.inl (And.intro rfl rfl) | refine And.intro ?_ ?_ | refine Exists.intro _ (Exists.intro _ (And.intro rfl (And.intro (by decide) ?_))))⟩
        · have hge0 : y < 0 := by simpa using hge0
          have hlab := B2.hi u la hla2
          have hw : IntKind.wrap .i64 (la + 1) = la + 1 := w64_id (by omega) (by omega)
          have hus := Snow.unv_set (z := la + 1) hy hge0 (by omega)
          refine Rn.draw zB 1000 [0, 0, 2, 0, 0, 24, 56, 120, 255, 511] rfl (by kernel_rfl) (by kernel_rfl) ?_
          refine Rn.ask zB 1000 rfl ⟨by omega, by omega⟩ ?_
          refine Rn.loadR zB 1000 rfl (LoadR.fld eI (f := 0) (v := .int .i64 la) hla2 (by simp) rfl rfl) ?_
          refine Rn.ask zB 1000 rfl ⟨by omega, by omega⟩ ?_
          refine Rn.storeR zB 1000 rfl (StoreR.fld eI (f := 0) (a' := la + 1) hy (by simp) (by omega) (by rw [hw]; rfl)) rfl ?_
          refine Rn.split zB 1000 rfl (fun hs => ?_) (fun hs => ?_)
          · have hs : a.to = 1 := by simp at hs; omega
            have L := B2.hit hrow hk ha hla2 hla0 hy hge0 hr hs
            refine Rn.out zB 1000 rfl rfl ?_
            refine Rn.out zB 1000 rfl rfl ?_
            refine Rn.fin zB 1000 rfl rfl rfl ⟨_, L⟩ [some 0, some 1, some 2, some 3, some 4, some 5] rfl rfl ?_ ?_ rfl rfl rfl
            · (repeat' first | exact trivial | exact rfl | exact Or.inl (And.intro rfl rfl) | exact wsucc _ (by omega) | refine And.intro ?_ ?_ | refine Or.inr ?_)
            · (repeat' first | exact trivial | exact rfl | exact (by decide) | exact zerosI _ | exact OfRaw.rows (by omega) | exact Or.inl (And.intro rfl rfl) | refine And.intro ?_ ?_ | refine Exists.intro _ (Exists.intro _ (And.intro rfl (And.intro (by decide) ?_))))
          · have hs : a.to ≠ 1 := by simp at hs; omega
            have E := B2.enq hrow hk ha hla2 hla0 hy hge0 hr hs
            have hux : u ≠ a.to := fun e => by rw [← e, hla2] at hy; injection hy; omega
            have hlen : (ys.drop of ++ [a.to]).length = ys.length - of + 1 := by simp
            have hinv : i + 1 ≤ row.length ∧ 0 ≤ (ys.drop of ++ [a.to]).length ∧ ((ys.drop of ++ [a.to]).length ≤ out.length ∧ Snow.unv (lv.set a.to (la + 1)) + ((ys.drop of ++ [a.to]).length - 0) ≤ out.length) ∧ Bf out arcs (lv.set a.to (la + 1)) ((ys.drop of ++ [a.to]).drop 0) (· = u) ∧ ClosedTo arcs (lv.set a.to (la + 1)) row (i + 1) ∧ (lv.set a.to (la + 1))[u]? = some la ∧ 2 * Snow.unv (lv.set a.to (la + 1)) + ((ys.drop of ++ [a.to]).length - 0) < 2 * Snow.unv lev + (xs.length - off) := by
              refine ⟨hlt, Nat.zero_le _, ⟨by omega, by omega⟩, by rw [List.drop_zero]; exact E, (C2.set a.to (by omega)).next hk ha (.inr fun z hz => ?_), by rw [List.getElem?_set_ne (fun e => hux e.symm)]; exact hla2, by omega⟩
              rcases setGet hz with ⟨_, e⟩ | ⟨e, _⟩
              · omega
              · exact absurd rfl e
            cases fl with
            | true =>
              refine Rn.appF zB 1000 rfl (arr nC (ys.drop of ++ [a.to])) (Src.raw rfl rfl (cells_from ys of ho2)) (Src.ex rfl rfl rfl (cells_one eN a.to)) ((arr_append _ _).symm) rfl ((ys.drop of ++ [a.to]).length - 0) (by first | rfl | omega | (simp; done) | (simp; omega)) (by omega) rfl (by omega) (.inl rfl) rfl ?_
              refine Rn.again zB 1000 rfl ((i + 1, lv.set a.to (la + 1), ys.drop of ++ [a.to], 0, false)) [some 0, some 1, some 2, some 3, some 4, some 5, some 10, some 7] (by dsimp only; omega) hinv ⟨rfl, rfl, rfl, rfl, rfl, by (repeat' first | exact trivial | exact rfl | exact Or.inl (And.intro rfl rfl) | exact wsucc _ (by omega) | refine And.intro ?_ ?_ | refine Or.inr ?_), by (repeat' first | exact trivial | exact rfl | exact (by decide) | exact zerosI _ | exact OfRaw.rows (by omega) | exact Or.inl (And.intro rfl rfl) | refine And.intro ?_ ?_ | refine Exists.intro _ (Exists.intro _ (And.intro rfl (And.intro (by decide) ?_))))⟩
            | false =>
              refine Rn.appN zB 1000 rfl (arr nC (ys.drop of ++ [a.to])) (Src.raw rfl rfl (cells_from ys of ho2)) (Src.ex rfl rfl rfl (cells_one eN a.to)) ((arr_append _ _).symm) rfl ((ys.drop of ++ [a.to]).length - 0) (by first | rfl | omega | (simp; done) | (simp; omega)) (by omega) rfl (by omega) rfl rfl ?_
              refine Rn.again zB 1000 rfl ((i + 1, lv.set a.to (la + 1), ys.drop of ++ [a.to], 0, false)) [some 0, some 1, some 2, some 3, some 4, some 5, some 10, some 7] (by dsimp only; omega) hinv ⟨rfl, rfl, rfl, rfl, rfl, by (repeat' first | exact trivial | exact rfl | exact Or.inl (And.intro rfl rfl) | exact wsucc _ (by omega) | refine And.intro ?_ ?_ | refine Or.inr ?_), by (repeat' first | exact trivial | exact rfl | exact (by decide) | exact zerosI _ | exact OfRaw.rows (by omega) | exact Or.inl (And.intro rfl rfl) | refine And.intro ?_ ?_ | refine Exists.intro _ (Exists.intro _ (And.intro rfl (And.intro (by decide) ?_))))⟩
    · have hlt : i = row.length := by simp at hlt; omega
      refine Rn.out zB 1000 rfl rfl ?_
      refine Rn.again zB 1000 rfl ((lv, ys, of, fl)) [some 0, some 1, some 2, some 3, some 4, some 5, some 6] hm2 ⟨ho2, ⟨hx2, hun2⟩, B2.full hrow (hlt ▸ C2)⟩ ⟨rfl, rfl, rfl, rfl, rfl, by (repeat' first | exact trivial | exact rfl | exact Or.inl (And.intro rfl rfl) | exact wsucc _ (by omega) | refine And.intro ?_ ?_ | refine Or.inr ?_), by (repeat' first | exact trivial | exact rfl | exact (by decide) | exact zerosI _ | exact OfRaw.rows (by omega) | exact Or.inl (And.intro rfl rfl) | refine And.intro ?_ ?_ | refine Exists.intro _ (Exists.intro _ (And.intro rfl (And.intro (by decide) ?_))))⟩
  · have hpos : xs.length - off = 0 := by simp at hpos; omega
    have hnil : xs.drop off = [] := List.drop_of_length_le (by omega)
    rw [hnil] at B
    refine Rn.out zB 1000 rfl rfl ?_
    refine Rn.fin zB 1000 rfl rfl rfl ⟨_, B.done⟩ [some 0, some 1, some 2, some 3, some 4, some 5] rfl rfl ?_ ?_ rfl rfl rfl
    · (repeat' first | exact trivial | exact rfl | exact Or.inl (And.intro rfl rfl) | exact wsucc _ (by omega) | refine And.intro ?_ ?_ | refine Or.inr ?_)
    · (repeat' first | exact trivial | exact rfl | exact (by decide) | exact zerosI _ | exact OfRaw.rows (by omega) | exact Or.inl (And.intro rfl rfl) | refine And.intro ?_ ?_ | refine Exists.intro _ (Exists.intro _ (And.intro rfl (And.intro (by decide) ?_))))
end Go.AM
