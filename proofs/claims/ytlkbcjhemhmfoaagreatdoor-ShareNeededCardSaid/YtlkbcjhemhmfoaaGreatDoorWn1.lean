/- Walks: join. -/
import Derived.Test.YtlkbcjhemhmfoaaGreatDoorMk
set_option linter.unusedSimpArgs false
set_option linter.unusedVariables false
namespace Go.AM
open Go Go.Proofs
open Snow (Arc Pipe)
set_option maxRecDepth 10000
set_option maxHeartbeats 1000000

def joinArcs (arcs : List Arc) (fr to : Nat) (room : Int) : List Arc := arcs ++ [⟨to, room, arcs.length + 1⟩, ⟨fr, 0, arcs.length⟩]
def addTo (out : List (List Nat)) (v k : Nat) : List (List Nat) := out.set v ((out.getD v []) ++ [k])
abbrev planC (ja na jo no : Nat) (fa fo : Bool) (je ne : Nat) (fe : Bool) (jd nd : Nat) (fd : Bool) : List Sc := [.sl (some (ja, 0)) na fa 3, .sl (some (jo, 0)) no fo 1, .sl (some (je, 0)) ne fe 1, .sl (some (jd, 0)) nd fd 3]

theorem cells_ex {l : List Sc} {n : Nat} (h : l.length = n) : CellsR l 0 n l := by subst h; exact ⟨by omega, by rw [List.drop_zero, List.take_length]⟩
theorem joinCells (arcs : List Arc) (fr to : Nat) (room : Int) (hb : arcs.length < 90000000000) : arr arcC arcs ++ [.int .i64 to, .int .i64 room, .int .i64 (IntKind.wrap .i64 ((arcs.length : Int) + 1)), .int .i64 fr, .int .i64 0, .int .i64 arcs.length] = arr arcC (joinArcs arcs fr to room) := by
  unfold joinArcs
  rw [arr_append, w64_id (by omega) (by omega)]
  rfl

theorem rowCells (row : List Nat) (k : Nat) (hb : k < 90000000000) : arr nC row ++ [.int .i64 (IntKind.wrap .i64 ((k : Int) + 1))] = arr nC (row ++ [k + 1]) := by
  rw [arr_append, w64_id (by omega) (by omega)]
  rfl
theorem addTo_rows {out : List (List Nat)} {v k : Nat} {row : List Nat} (h : out[v]? = some row) : rows (addTo out v k) = rowsX ((out.map some).set v (some (row ++ [k]))) := by
  unfold rows addTo
  rw [List.map_set, List.getD_eq_getElem?_getD, h]; rfl
theorem map_row {out : List (List Nat)} {v : Nat} {row : List Nat} (h : out[v]? = some row) : (out.map some)[v]? = some (some row) := by rw [List.getElem?_map, h]; rfl
theorem set_none {L : RL} {v : Nat} {o : Option (List Nat)} (h : L[v]? = some o) : (L.set v none)[v]? = some none := by
  rw [List.getElem?_set_self (List.getElem?_eq_some_iff.mp h).1]
theorem offN (n : Nat) : 0 + (n : Int).toNat * 1 = n := by simp
theorem set_again {L : RL} (v : Nat) (a b : Option (List Nat)) : (L.set v a).set v b = L.set v b := by rw [List.set_set]
theorem Closes.row1 {L : RL} {i off : Nat} {o : Option (List Nat)} {row : List Nat} {k : Nat} (h : L[i]? = some o) (ho1 : o = none ∨ o = some []) (ho : off = i) : Closes (rowsX L) (rowsX (L.set i (some (row ++ [k])))) off (row.length + 1) false 1 (arr nC (row ++ [k])) := by
  have := Closes.row (row := row ++ [k]) h ho1 (by simp) ho
  rwa [List.length_append] at this
theorem Closes.row2 {L : RL} {i off : Nat} {o : Option (List Nat)} {row : List Nat} {k : Nat} (h : L[i]? = some o) (ho : off = i) : Closes (rowsX (L.set i none)) (rowsX (L.set i (some (row ++ [k])))) off (row.length + 1) false 1 (arr nC (row ++ [k])) := by
  have := Closes.row1 (row := row) (k := k) (set_none h) (.inl rfl) ho
  rwa [set_again] at this
theorem c_join (arcs : List Arc) (out : List (List Nat)) (fo : Bool) (ne nd : Nat) (fe fd : Bool) (fr to : Nat) (room : Int) (hb : arcs.length < 90000000000) (hr : ∀ row ∈ out, row.length ≤ arcs.length) (ho : out.length < 90000000000) (hf : fr < out.length) (ht : to < out.length) :
    Ct envB 132 [.one (.ptr (some (0, 0))), iA fr, iA to, iA room] [⟨0, true, none, .ex (planC 1 arcs.length 2 out.length false fo 3 ne fe 4 nd fd)⟩, ⟨1, true, none, .raw (arr arcC arcs)⟩, ⟨2, true, none, .res (rows out)⟩] 5 Unit
      (fun _ => iA arcs.length) (fun _ => [⟨0, true, none, .ex (planC 5 (arcs.length + 2) 2 out.length false fo 3 ne fe 4 nd fd)⟩, ⟨5, true, none, .raw (arr arcC (joinArcs arcs fr to room))⟩, ⟨2, true, none, .res (rows (addTo (addTo out fr arcs.length) to (arcs.length + 1)))⟩]) (fun _ => 6) := by
  obtain ⟨row, hrow⟩ : ∃ row, out[fr]? = some row := ⟨out[fr], List.getElem?_eq_getElem hf⟩
  have hl := hr row (List.mem_of_getElem? hrow)
  obtain ⟨row2, hrow2⟩ : ∃ row, (addTo out fr arcs.length)[to]? = some row := ⟨(addTo out fr arcs.length)[to]'(by rw [addTo, List.length_set]; exact ht), List.getElem?_eq_getElem _⟩
  have hl2 : row2.length ≤ arcs.length + 1 := by
    unfold addTo at hrow2
    rcases setGet hrow2 with ⟨rfl, rfl⟩ | ⟨_, h⟩
    · rw [List.getD_eq_getElem?_getD, hrow]; simpa using hl
    · have := hr row2 (List.mem_of_getElem? h); omega
  refine Ct.of zB (fn := Tryz.f132) (by kernel_rfl) (by kernel_rfl) rfl rfl ?_
  refine Rn.appN zB 1000 rfl (arr arcC (joinArcs arcs fr to room)) (Src.raw rfl rfl (cells_all eArc arcs)) (Src.ex rfl rfl rfl (cells_ex rfl)) (joinCells arcs fr to room hb) rfl (arcs.length + 2) (by first | rfl | omega | (simp; done) | (simp; omega)) (by omega) rfl (by omega) rfl rfl ?_
  refine Rn.draw zB 1000 [0, 1, 3, 7, 0, 0, 32, 96, 224, 0, 992, 2016, 0, 4096, 16352, 32767, 65535] rfl (by kernel_rfl) (by kernel_rfl) ?_
  refine Rn.ask zB 1000 rfl ⟨by omega, by omega⟩ ?_
  refine Rn.odd zB 1000 rfl ?_
  by_cases hne : row = []
  · subst hne
    refine Rn.loadFlat rfl rfl rfl rfl rfl (LoadS.nilRow (map_row hrow) (offN _)) ?_
    refine Rn.appF zB 1000 rfl (arr nC ([] ++ [arcs.length])) (⟨rfl, rfl⟩) (Src.ex rfl rfl rfl (cells_one eN arcs.length)) ((by rfl)) rfl (1) (by first | rfl | omega | (simp; done) | (simp; omega)) (by omega) rfl (by omega) (.inr rfl) rfl ?_
    refine Rn.ask zB 1000 rfl ⟨by omega, by omega⟩ ?_
    refine Rn.odd zB 1000 rfl ?_
    refine Rn.closeRow (r2 := rows (addTo out fr arcs.length)) rfl rfl rfl (by omega) rfl rfl rfl rfl rfl (by rw [addTo_rows hrow]; exact Closes.row1 (row := []) (map_row hrow) (.inr rfl) (offN _)) rfl rfl rfl rfl ?_
    refine Rn.draw zB 1000 [0, 1, 3, 7, 0, 0, 32, 96, 224, 0, 992, 2016, 0, 4096, 12288, 32736, 65535, 131071] rfl (by kernel_rfl) (by kernel_rfl) ?_
    refine Rn.ask zB 1000 rfl ⟨by omega, by omega⟩ ?_
    refine Rn.odd zB 1000 rfl ?_
    by_cases hne2 : row2 = []
    · subst hne2
      refine Rn.loadFlat rfl rfl rfl rfl rfl (LoadS.nilRow (map_row hrow2) (offN _)) ?_
      refine Rn.appF zB 1000 rfl (arr nC ([] ++ [arcs.length + 1])) (⟨rfl, rfl⟩) (Src.ex rfl rfl rfl (cells_ex rfl)) (rowCells [] arcs.length hb) rfl (1) (by first | rfl | omega | (simp; done) | (simp; omega)) (by omega) rfl (by omega) (.inr rfl) rfl ?_
      refine Rn.ask zB 1000 rfl ⟨by omega, by omega⟩ ?_
      refine Rn.odd zB 1000 rfl ?_
      refine Rn.closeRow (r2 := rows (addTo (addTo out fr arcs.length) to (arcs.length + 1))) rfl rfl rfl (by omega) rfl rfl rfl rfl rfl (by rw [addTo_rows hrow2]; exact Closes.row1 (row := []) (map_row hrow2) (.inr rfl) (offN _)) rfl rfl rfl rfl ?_
      refine Rn.fin zB 1000 rfl rfl rfl () [some 0, some 1, some 2, some 3, some 4, some 6] rfl rfl ?_ ?_ rfl rfl rfl
      · (repeat' first | exact trivial | exact rfl | exact Or.inl (And.intro rfl rfl) | exact wsucc _ (by omega) | refine And.intro ?_ ?_ | refine Or.inr ?_)
      · (repeat' first | exact trivial | exact rfl | exact (by decide) | exact Or.inl (And.intro rfl rfl) | refine And.intro ?_ ?_ | refine Exists.intro _ (Exists.intro _ (And.intro rfl (And.intro (by decide) ?_))))
    · refine Rn.openRow rfl rfl rfl rfl rfl rfl rfl rfl (Opens.row (map_row hrow2) hne2 (offN _)) rfl ?_
      refine Rn.appN zB 1000 rfl (arr nC (row2 ++ [arcs.length + 1])) (Src.raw rfl rfl (cells_all eN row2)) (Src.ex rfl rfl rfl (cells_ex rfl)) (rowCells row2 arcs.length hb) rfl (row2.length + 1) (by first | rfl | omega | (simp; done) | (simp; omega)) (by omega) rfl (by omega) rfl rfl ?_
      refine Rn.ask zB 1000 rfl ⟨by omega, by omega⟩ ?_
      refine Rn.odd zB 1000 rfl ?_
      refine Rn.closeRow (r2 := rows (addTo (addTo out fr arcs.length) to (arcs.length + 1))) rfl rfl rfl (by omega) rfl rfl rfl rfl rfl (by rw [addTo_rows hrow2]; exact Closes.row2 (map_row hrow2) (offN _)) rfl rfl rfl rfl ?_
      refine Rn.fin zB 1000 rfl rfl rfl () [some 0, some 1, some 2, some 3, some 4, some 6] rfl rfl ?_ ?_ rfl rfl rfl
      · (repeat' first | exact trivial | exact rfl | exact Or.inl (And.intro rfl rfl) | exact wsucc _ (by omega) | refine And.intro ?_ ?_ | refine Or.inr ?_)
      · (repeat' first | exact trivial | exact rfl | exact (by decide) | exact Or.inl (And.intro rfl rfl) | refine And.intro ?_ ?_ | refine Exists.intro _ (Exists.intro _ (And.intro rfl (And.intro (by decide) ?_))))
  · refine Rn.openRow rfl rfl rfl rfl rfl rfl rfl rfl (Opens.row (map_row hrow) hne (offN _)) rfl ?_
    refine Rn.appN zB 1000 rfl (arr nC (row ++ [arcs.length])) (Src.raw rfl rfl (cells_all eN row)) (Src.ex rfl rfl rfl (cells_one eN arcs.length)) ((arr_append _ _).symm) rfl (row.length + 1) (by first | rfl | omega | (simp; done) | (simp; omega)) (by omega) rfl (by omega) rfl rfl ?_
    refine Rn.ask zB 1000 rfl ⟨by omega, by omega⟩ ?_
    refine Rn.odd zB 1000 rfl ?_
    refine Rn.closeRow (r2 := rows (addTo out fr arcs.length)) rfl rfl rfl (by omega) rfl rfl rfl rfl rfl (by rw [addTo_rows hrow]; exact Closes.row2 (map_row hrow) (offN _)) rfl rfl rfl rfl ?_
    refine Rn.draw zB 1000 [0, 1, 3, 7, 0, 0, 32, 96, 224, 0, 992, 2016, 0, 4096, 12288, 32736, 65535, 131071] rfl (by kernel_rfl) (by kernel_rfl) ?_
    refine Rn.ask zB 1000 rfl ⟨by omega, by omega⟩ ?_
    refine Rn.odd zB 1000 rfl ?_
    by_cases hne2 : row2 = []
    · subst hne2
      refine Rn.loadFlat rfl rfl rfl rfl rfl (LoadS.nilRow (map_row hrow2) (offN _)) ?_
      refine Rn.appF zB 1000 rfl (arr nC ([] ++ [arcs.length + 1])) (⟨rfl, rfl⟩) (Src.ex rfl rfl rfl (cells_ex rfl)) (rowCells [] arcs.length hb) rfl (1) (by first | rfl | omega | (simp; done) | (simp; omega)) (by omega) rfl (by omega) (.inr rfl) rfl ?_
      refine Rn.ask zB 1000 rfl ⟨by omega, by omega⟩ ?_
      refine Rn.odd zB 1000 rfl ?_
      refine Rn.closeRow (r2 := rows (addTo (addTo out fr arcs.length) to (arcs.length + 1))) rfl rfl rfl (by omega) rfl rfl rfl rfl rfl (by rw [addTo_rows hrow2]; exact Closes.row1 (row := []) (map_row hrow2) (.inr rfl) (offN _)) rfl rfl rfl rfl ?_
      refine Rn.fin zB 1000 rfl rfl rfl () [some 0, some 1, some 2, some 3, some 4, some 6] rfl rfl ?_ ?_ rfl rfl rfl
      · (repeat' first | exact trivial | exact rfl | exact Or.inl (And.intro rfl rfl) | exact wsucc _ (by omega) | refine And.intro ?_ ?_ | refine Or.inr ?_)
      · (repeat' first | exact trivial | exact rfl | exact (by decide) | exact Or.inl (And.intro rfl rfl) | refine And.intro ?_ ?_ | refine Exists.intro _ (Exists.intro _ (And.intro rfl (And.intro (by decide) ?_))))
    · refine Rn.openRow rfl rfl rfl rfl rfl rfl rfl rfl (Opens.row (map_row hrow2) hne2 (offN _)) rfl ?_
      refine Rn.appN zB 1000 rfl (arr nC (row2 ++ [arcs.length + 1])) (Src.raw rfl rfl (cells_all eN row2)) (Src.ex rfl rfl rfl (cells_ex rfl)) (rowCells row2 arcs.length hb) rfl (row2.length + 1) (by first | rfl | omega | (simp; done) | (simp; omega)) (by omega) rfl (by omega) rfl rfl ?_
      refine Rn.ask zB 1000 rfl ⟨by omega, by omega⟩ ?_
      refine Rn.odd zB 1000 rfl ?_
      refine Rn.closeRow (r2 := rows (addTo (addTo out fr arcs.length) to (arcs.length + 1))) rfl rfl rfl (by omega) rfl rfl rfl rfl rfl (by rw [addTo_rows hrow2]; exact Closes.row2 (map_row hrow2) (offN _)) rfl rfl rfl rfl ?_
      refine Rn.fin zB 1000 rfl rfl rfl () [some 0, some 1, some 2, some 3, some 4, some 6] rfl rfl ?_ ?_ rfl rfl rfl
      · (repeat' first | exact trivial | exact rfl | exact Or.inl (And.intro rfl rfl) | exact wsucc _ (by omega) | refine And.intro ?_ ?_ | refine Or.inr ?_)
      · (repeat' first | exact trivial | exact rfl | exact (by decide) | exact Or.inl (And.intro rfl rfl) | refine And.intro ?_ ?_ | refine Exists.intro _ (Exists.intro _ (And.intro rfl (And.intro (by decide) ?_))))
end Go.AM
