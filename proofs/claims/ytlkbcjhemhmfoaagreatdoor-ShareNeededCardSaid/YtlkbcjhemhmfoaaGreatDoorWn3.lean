/- Walks: send, the function within push. -/
import Derived.Test.YtlkbcjhemhmfoaaGreatDoorWn2
set_option linter.unusedSimpArgs false
set_option linter.unusedVariables false
namespace Go.AM
open Go Go.Proofs
open Snow (Arc Pipe Send)
set_option maxRecDepth 10000
set_option maxHeartbeats 1000000

theorem NetOK.shape {out : List (List Nat)} {arcs arcs' : List Arc} (N : NetOK out arcs) (hl : arcs'.length = arcs.length) (hs : ∀ k : Nat, (arcs'[k]?).map (fun a => (a.to, a.back)) = (arcs[k]?).map fun a => (a.to, a.back)) : NetOK out arcs' := by
  have key : ∀ a ∈ arcs', ∃ b ∈ arcs, b.to = a.to ∧ b.back = a.back := fun a ha => by
    obtain ⟨k, hk⟩ := List.getElem?_of_mem ha
    have := hs k
    rw [hk] at this
    cases hb : arcs[k]? with
    | none => rw [hb] at this; cases this
    | some b =>
      rw [hb] at this
      simp at this
      exact ⟨b, List.mem_of_getElem? hb, this.1.symm, this.2.symm⟩
  refine ⟨N.two, by rw [hl]; exact N.hb, N.ho, fun r hr => by rw [hl]; exact N.rb r hr, fun r hr k hk => by rw [hl]; exact N.kb r hr k hk, fun a ha => ?_, fun a ha => ?_⟩
  · obtain ⟨b, hb, e, _⟩ := key a ha; rw [← e]; exact N.tb b hb
  · obtain ⟨b, hb, _, e⟩ := key a ha; rw [← e, hl]; exact N.bb b hb

abbrev sendB (na : Nat) (arcs : List Arc) (out : List (List Nat)) (lev : List Int) (next : List Nat) (fa fo : Bool) (ne nd : Nat) (fe fd : Bool) : BL :=
  [⟨0, false, none, .ex [.sl (some (4, 0)) out.length true 1]⟩, ⟨1, false, none, .ex [.ptr (some (6, 0))]⟩, ⟨2, false, none, .ex [.sl (some (5, 0)) out.length true 1]⟩, ⟨3, false, none, .ex [.fn 133 [(0, 0), (1, 0), (2, 0), (3, 0)]]⟩,
   ⟨4, true, none, .raw (arr nC next)⟩, ⟨5, false, none, .raw (arr iC lev)⟩, ⟨6, false, none, .ex (planC 7 na 8 out.length fa fo 9 ne fe 10 nd fd)⟩, ⟨7, true, none, .raw (arr arcC arcs)⟩, ⟨8, false, none, .res (rows out)⟩]
theorem min_eq (a b : Int) : (if b < a then b else a) = min a b := by
  rw [Int.min_def]
  split <;> split <;> omega

theorem c_send (na : Nat) (out : List (List Nat)) (lev : List Int) (fa fo : Bool) (ne nd : Nat) (fe fd : Bool) (hlev : Snow.LevB lev) (hll : lev.length = out.length) (Bd : Int) (hBd : ∀ (v : Nat) (x : Int), lev[v]? = some x → x ≤ Bd) : ∀ (d at_ : Nat) (la most : Int) (arcs : List Arc) (next : List Nat), lev[at_]? = some la → Bd - la < d → NetOK out arcs → arcs.length = na → next.length = out.length →
    Ct envB 133 [iA at_, iA most, .one (.ptr (some (0, 0))), .one (.ptr (some (1, 0))), .one (.ptr (some (2, 0))), .one (.ptr (some (3, 0)))] (sendB na arcs out lev next fa fo ne nd fe fd) 11
      { r : Int × List Arc × List Nat // Send w64 out lev at_ most arcs next r.1 r.2.1 r.2.2 } (fun a => iA a.1.1) (fun a => [⟨4, true, none, .raw (arr nC a.1.2.2)⟩, ⟨7, true, none, .raw (arr arcC a.1.2.1)⟩]) (fun _ => 11) := by
  intro d
  induction d with
  | zero => intro at_ la most arcs next h1 h2; have := hBd _ _ h1; omega
  | succ d ih =>
  intro at_ la most arcs next hla hd N hna hnl
  have n2 := N.two
  have nb := N.ho
  have ab := N.hb
  have hun : at_ < out.length := by rw [← hll]; exact (List.getElem?_eq_some_iff.mp hla).1
  obtain ⟨row, hrow⟩ : ∃ row, out[at_]? = some row := ⟨out[at_], List.getElem?_eq_getElem hun⟩
  have hrb := N.rb row (List.mem_of_getElem? hrow)
  have hkb := N.kb row (List.mem_of_getElem? hrow)
  refine Ct.of zB (fn := Tryz.f133) (by kernel_rfl) (by kernel_rfl) rfl rfl ?_
  refine Rn.split zB 1000 rfl (fun hs => ?_) (fun hs => ?_)
  · have hs : at_ = 1 := by simp at hs; omega
    refine Rn.fin zB 1000 rfl rfl rfl ⟨(most, arcs, next), by rw [hs]; exact .sink⟩ [some 0, some 1, some 2, some 3, some 4, some 5, some 6, some 7, some 8, some 9, some 10] rfl rfl ?_ ?_ rfl rfl rfl
    · (repeat' first | exact trivial | exact rfl | exact Or.inl (And.intro rfl rfl) | exact wsucc _ (by omega) | refine And.intro ?_ ?_ | refine Or.inr ?_)
    · (repeat' first | exact trivial | exact rfl | exact (by decide) | exact zerosI _ | exact OfRaw.rows (by omega) | exact Or.inl (And.intro rfl rfl) | refine And.intro ?_ ?_ | refine Exists.intro _ (Exists.intro _ (And.intro rfl (And.intro (by decide) ?_))))
  have hs : at_ ≠ 1 := by simp at hs; omega
  refine Rn.loop zB 1000 rfl (T := List Arc × List Nat) (fun t => row.length - t.2.getD at_ 0) (fun t => NetOK out t.1 ∧ t.1.length = na ∧ t.2.length = out.length ∧ ∀ g a' n', Send w64 out lev at_ most t.1 t.2 g a' n' → Send w64 out lev at_ most arcs next g a' n') (fun t => [(5, .one (.ptr (some (3, 0)))), (4, .one (.ptr (some (2, 0)))), (3, .one (.ptr (some (1, 0)))), (2, .one (.ptr (some (0, 0)))), (1, iA most), (0, iA at_)]) (fun t => sendB na t.1 out lev t.2 fa fo ne nd fe fd) (fun _ => 11) ((arcs, next)) [some 0, some 1, some 2, some 3, some 4, some 5, some 6, some 7, some 8, some 9, some 10] ⟨N, hna, hnl, fun _ _ _ h => h⟩ ⟨rfl, rfl, rfl, rfl, rfl, by (repeat' first | exact trivial | exact rfl | exact Or.inl (And.intro rfl rfl) | exact wsucc _ (by omega) | refine And.intro ?_ ?_ | refine Or.inr ?_), by (repeat' first | exact trivial | exact rfl | exact (by decide) | exact zerosI _ | exact OfRaw.rows (by omega) | exact Or.inl (And.intro rfl rfl) | refine And.intro ?_ ?_ | refine Exists.intro _ (Exists.intro _ (And.intro rfl (And.intro (by decide) ?_))))⟩ ?_
  rintro ⟨ar, nx⟩ ⟨N1, hal, hnl1, hS⟩
  dsimp only at N1 hal hnl1 hS
  obtain ⟨n, hn⟩ : ∃ n, nx[at_]? = some n := ⟨nx[at_]'(by rw [hnl1]; exact hun), List.getElem?_eq_getElem _⟩
  refine Rn.draw zB 1000 [0, 0, 3, 7, 0, 16, 48, 112, 0, 496, 1008, 2032, 4095] rfl (by kernel_rfl) (by kernel_rfl) ?_
  refine Rn.ask zB 1000 rfl ⟨by omega, by omega⟩ ?_
  refine Rn.loadR zB 1000 rfl (LoadR.fld eN (f := 0) (v := .int .i64 n) hn (by simp) rfl rfl) ?_
  refine Rn.ask zB 1000 rfl ⟨by omega, by omega⟩ ?_
  refine Rn.loadRow zB 1000 rfl rfl rfl rfl (LoadRow.rows hrow (offN _)) rfl ?_
  refine Rn.split zB 1000 rfl (fun hlt => ?_) (fun hlt => ?_)
  · have hlt : n < row.length := by simpa using hlt
    obtain ⟨k, hk⟩ : ∃ k, row[n]? = some k := ⟨row[n], List.getElem?_eq_getElem hlt⟩
    have hka := hkb k (List.mem_of_getElem? hk)
    obtain ⟨a, ha⟩ : ∃ a, ar[k]? = some a := ⟨ar[k]'(by omega), List.getElem?_eq_getElem _⟩
    have hat := N1.tb a (List.mem_of_getElem? ha)
    have hbk := N1.bb a (List.mem_of_getElem? ha)
    obtain ⟨lt, hlt2⟩ : ∃ y, lev[a.to]? = some y := ⟨lev[a.to]'(by rw [hll]; exact hat), List.getElem?_eq_getElem _⟩
    have hgd : nx.getD at_ 0 = n := by rw [List.getD_eq_getElem?_getD, hn]; rfl
    have hset : ∀ {l : List Nat} {m : Nat}, l.length = out.length → (l.set at_ m).getD at_ 0 = m := fun {l m} hl => by rw [List.getD_eq_getElem?_getD, List.getElem?_set_self (by omega)]; rfl
    refine Rn.draw zB 1000 [0, 1, 3, 7, 0, 31, 63, 0, 0, 384, 896, 2047, 4095, 8191] rfl (by kernel_rfl) (by kernel_rfl) ?_
    refine Rn.ask zB 1000 rfl ⟨by omega, by omega⟩ ?_
    refine Rn.loadRow zB 1000 rfl rfl rfl rfl (LoadRow.rows hrow (offN _)) rfl ?_
    refine Rn.ask zB 1000 rfl ⟨by omega, by omega⟩ ?_
    refine Rn.loadR zB 1000 rfl (LoadR.fld eN (f := 0) (v := .int .i64 n) hn (by simp) rfl rfl) ?_
    refine Rn.ask zB 1000 rfl ⟨by omega, by omega⟩ ?_
    refine Rn.loadR zB 1000 rfl (LoadR.fld eN (f := 0) (v := .int .i64 k) hk (by simp) rfl rfl) ?_
    refine Rn.ask zB 1000 rfl ⟨by omega, by omega⟩ ?_
    refine Rn.loadR zB 1000 rfl (LoadR.elt eArc ha (by simp)) ?_
    refine Rn.draw zB 1000 [0, 1, 3, 7, 15, 15, 47, 127, 255, 15, 15, 1551, 3599, 7695, 16383, 32767] rfl (by kernel_rfl) (by kernel_rfl) ?_
    refine Rn.split zB 1000 rfl (fun hr => ?_) (fun hr => ?_)
    · have hr : a.room = 0 := by simpa using hr
      refine Rn.split zB 1000 rfl (fun h => ?_) (fun h => ?_)
      · refine Rn.ask zB 1000 rfl ⟨by omega, by omega⟩ ?_
        refine Rn.loadR zB 1000 rfl (LoadR.fld eN (f := 0) (v := .int .i64 n) hn (by simp) rfl rfl) ?_
        refine Rn.ask zB 1000 rfl ⟨by omega, by omega⟩ ?_
        refine Rn.storeR zB 1000 rfl (StoreR.fld eN (f := 0) (a' := n + 1) hn (by simp) (by omega) (by rw [wsucc n (by omega)]; rfl)) rfl ?_
        refine Rn.again zB 1000 rfl ((ar, nx.set at_ (n + 1))) [some 0, some 1, some 2, some 3, some 4, some 5, some 6, some 7, some 8, some 9, some 10] (by dsimp only; rw [hgd, hset hnl1]; omega) ⟨N1, hal, by simpa using hnl1, fun g a' n' h => hS g a' n' (.skip hs hn hrow hk ha hla hlt2 (.inl hr) h)⟩ ⟨rfl, rfl, rfl, rfl, rfl, by (repeat' first | exact trivial | exact rfl | exact Or.inl (And.intro rfl rfl) | exact wsucc _ (by omega) | refine And.intro ?_ ?_ | refine Or.inr ?_), by (repeat' first | exact trivial | exact rfl | exact (by decide) | exact zerosI _ | exact OfRaw.rows (by omega) | exact Or.inl (And.intro rfl rfl) | refine And.intro ?_ ?_ | refine Exists.intro _ (Exists.intro _ (And.intro rfl (And.intro (by decide) ?_))))⟩
      · cases h
    · have hr : a.room ≠ 0 := by simpa using hr
      refine Rn.ask zB 1000 rfl ⟨by omega, by omega⟩ ?_
      refine Rn.loadR zB 1000 rfl (LoadR.fld eI (f := 0) (v := .int .i64 lt) hlt2 (by simp) rfl rfl) ?_
      refine Rn.ask zB 1000 rfl ⟨by omega, by omega⟩ ?_
      refine Rn.loadR zB 1000 rfl (LoadR.fld eI (f := 0) (v := .int .i64 la) hla (by simp) rfl rfl) ?_
      refine Rn.split zB 1000 rfl (fun hne => ?_) (fun hne => ?_)
      · have hne : lt ≠ w64 (la + 1) := by simpa [w64] using hne
        refine Rn.ask zB 1000 rfl ⟨by omega, by omega⟩ ?_
        refine Rn.loadR zB 1000 rfl (LoadR.fld eN (f := 0) (v := .int .i64 n) hn (by simp) rfl rfl) ?_
        refine Rn.ask zB 1000 rfl ⟨by omega, by omega⟩ ?_
        refine Rn.storeR zB 1000 rfl (StoreR.fld eN (f := 0) (a' := n + 1) hn (by simp) (by omega) (by rw [wsucc n (by omega)]; rfl)) rfl ?_
        refine Rn.again zB 1000 rfl ((ar, nx.set at_ (n + 1))) [some 0, some 1, some 2, some 3, some 4, some 5, some 6, some 7, some 8, some 9, some 10] (by dsimp only; rw [hgd, hset hnl1]; omega) ⟨N1, hal, by simpa using hnl1, fun g a' n' h => hS g a' n' (.skip hs hn hrow hk ha hla hlt2 (.inr hne) h)⟩ ⟨rfl, rfl, rfl, rfl, rfl, by (repeat' first | exact trivial | exact rfl | exact Or.inl (And.intro rfl rfl) | exact wsucc _ (by omega) | refine And.intro ?_ ?_ | refine Or.inr ?_), by (repeat' first | exact trivial | exact rfl | exact (by decide) | exact zerosI _ | exact OfRaw.rows (by omega) | exact Or.inl (And.intro rfl rfl) | refine And.intro ?_ ?_ | refine Exists.intro _ (Exists.intro _ (And.intro rfl (And.intro (by decide) ?_))))⟩
      · have heq : lt = w64 (la + 1) := by simpa [w64] using hne
        have hlab := hlev _ _ hla
        have heq1 : lt = la + 1 := by rw [heq]; exact w64_id (by omega) (by omega)
        have hltB := hBd _ _ hlt2
        have c := ih a.to lt (if a.room < most then a.room else most) ar nx hlt2 (by omega) N1 hal hnl1
        refine Rn.call zB 1000 rfl (c) [some 0, some 1, some 2, some 3, some 4, some 5, some 6, some 7, some 8, some 9, some 10] rfl (by (repeat' first | exact trivial | exact rfl | exact Or.inl (And.intro rfl rfl) | exact wsucc _ (by omega) | refine And.intro ?_ ?_ | refine Or.inr ?_)) (by (repeat' first | exact trivial | exact rfl | exact (by decide) | exact zerosI _ | exact OfRaw.rows (by omega) | exact Or.inl (And.intro rfl rfl) | refine And.intro ?_ ?_ | refine Exists.intro _ (Exists.intro _ (And.intro rfl (And.intro (by decide) ?_))))) rfl rfl rfl ?_
        rintro ⟨⟨g1, ar1, nx1⟩, hS1⟩
        dsimp only at hS1
        rw [min_eq] at hS1
        refine ⟨_, _, rfl, ?_⟩
        have hlen := hS1.len
        have hshape := hS1.shape
        have N2 := N1.shape hlen.1 hshape
        obtain ⟨n1, hn1⟩ : ∃ n1, nx1[at_]? = some n1 := ⟨nx1[at_]'(by omega), List.getElem?_eq_getElem _⟩
        have hmono : n1 = n := by
          have := hS1.lowN wrap_ok hlev at_ la lt hla hlt2 (by omega)
          rw [hn1, hn] at this; injection this
        refine Rn.split zB 1000 rfl (fun hg => ?_) (fun hg => ?_)
        · have hg : 0 < g1 := by simpa using hg
          obtain ⟨b, hb⟩ : ∃ b, ar1[k]? = some b := ⟨ar1[k]'(by omega), List.getElem?_eq_getElem _⟩
          obtain ⟨c, hc⟩ : ∃ c, (ar1.set k ⟨b.to, w64 (b.room - g1), b.back⟩)[a.back]? = some c := ⟨(ar1.set k ⟨b.to, w64 (b.room - g1), b.back⟩)[a.back]'(by simp; omega), List.getElem?_eq_getElem _⟩
          refine Rn.ask zB 1000 rfl ⟨by omega, by omega⟩ ?_
          refine Rn.loadR zB 1000 rfl (LoadR.fld eArc (f := 1) (v := .int .i64 b.room) hb (by simp) rfl rfl) ?_
          refine Rn.ask zB 1000 rfl ⟨by omega, by omega⟩ ?_
          refine Rn.storeR zB 1000 rfl (StoreR.fld eArc (f := 1) (a' := ⟨b.to, w64 (b.room - g1), b.back⟩) hb (by simp) (by omega) rfl) rfl ?_
          refine Rn.draw zB 1000 [0, 1, 3, 7, 0, 16, 63, 127, 255, 0, 1023, 2047, 4095, 8191] rfl (by kernel_rfl) (by kernel_rfl) ?_
          refine Rn.ask zB 1000 rfl ⟨by omega, by omega⟩ ?_
          refine Rn.loadR zB 1000 rfl (LoadR.fld eArc (f := 1) (v := .int .i64 c.room) hc (by simp) rfl rfl) ?_
          refine Rn.ask zB 1000 rfl ⟨by omega, by omega⟩ ?_
          refine Rn.storeR zB 1000 rfl (StoreR.fld eArc (f := 1) (a' := ⟨c.to, w64 (c.room + g1), c.back⟩) hc (by simp) (by omega) rfl) rfl ?_
          refine Rn.out zB 1000 rfl rfl ?_
          refine Rn.fin zB 1000 rfl rfl rfl ⟨(g1, _, nx1), hS _ _ _ (.hit hs hn hrow hk ha hla hlt2 hr heq hS1 hg hb hc)⟩ [some 0, some 1, some 2, some 3, some 4, some 5, some 6, some 7, some 8, some 9, some 10] rfl rfl ?_ ?_ rfl rfl rfl
          · (repeat' first | exact trivial | exact rfl | exact Or.inl (And.intro rfl rfl) | exact wsucc _ (by omega) | refine And.intro ?_ ?_ | refine Or.inr ?_)
          · (repeat' first | exact trivial | exact rfl | exact (by decide) | exact zerosI _ | exact OfRaw.rows (by omega) | exact Or.inl (And.intro rfl rfl) | refine And.intro ?_ ?_ | refine Exists.intro _ (Exists.intro _ (And.intro rfl (And.intro (by decide) ?_))))
        · have hg : ¬ 0 < g1 := by simpa using hg
          refine Rn.ask zB 1000 rfl ⟨by omega, by omega⟩ ?_
          refine Rn.loadR zB 1000 rfl (LoadR.fld eN (f := 0) (v := .int .i64 n1) hn1 (by simp) rfl rfl) ?_
          refine Rn.ask zB 1000 rfl ⟨by omega, by omega⟩ ?_
          refine Rn.storeR zB 1000 rfl (StoreR.fld eN (f := 0) (a' := n1 + 1) hn1 (by simp) (by omega) (by rw [wsucc n1 (by omega)]; rfl)) rfl ?_
          refine Rn.again zB 1000 rfl ((ar1, nx1.set at_ (n1 + 1))) [some 0, some 1, some 2, some 3, some 4, some 5, some 6, some 7, some 8, some 9, some 10] (by dsimp only; rw [hgd, hset (hlen.2.trans hnl1)]; omega) ⟨N2, hlen.1.trans hal, by rw [List.length_set]; exact hlen.2.trans hnl1, fun g a' n' h => hS g a' n' (.fail hs hn hrow hk ha hla hlt2 hr heq hS1 hg hn1 h)⟩ ⟨rfl, rfl, rfl, rfl, rfl, by (repeat' first | exact trivial | exact rfl | exact Or.inl (And.intro rfl rfl) | exact wsucc _ (by omega) | refine And.intro ?_ ?_ | refine Or.inr ?_), by (repeat' first | exact trivial | exact rfl | exact (by decide) | exact zerosI _ | exact OfRaw.rows (by omega) | exact Or.inl (And.intro rfl rfl) | refine And.intro ?_ ?_ | refine Exists.intro _ (Exists.intro _ (And.intro rfl (And.intro (by decide) ?_))))⟩
  · have hge : row.length ≤ n := by simpa using hlt
    refine Rn.out zB 1000 rfl rfl ?_
    refine Rn.fin zB 1000 rfl rfl rfl ⟨(0, ar, nx), hS _ _ _ (.done hs hn hrow hge)⟩ [some 0, some 1, some 2, some 3, some 4, some 5, some 6, some 7, some 8, some 9, some 10] rfl rfl ?_ ?_ rfl rfl rfl
    · (repeat' first | exact trivial | exact rfl | exact Or.inl (And.intro rfl rfl) | exact wsucc _ (by omega) | refine And.intro ?_ ?_ | refine Or.inr ?_)
    · (repeat' first | exact trivial | exact rfl | exact (by decide) | exact zerosI _ | exact OfRaw.rows (by omega) | exact Or.inl (And.intro rfl rfl) | refine And.intro ?_ ?_ | refine Exists.intro _ (Exists.intro _ (And.intro rfl (And.intro (by decide) ?_))))
end Go.AM
