/- Walks: lists, networks, pieces of a body. -/
import Derived.Test.YtlkbcjhemhmfoaaGreatDoorMh
import Derived.Test.YtlkbcjhemhmfoaaGreatDoorMi
import Derived.Test.YtlkbcjhemhmfoaaGreatDoorMj
section
/- Rows of numbers, each in a block of its own; arcs. No program here. -/
set_option linter.unusedSimpArgs false
set_option linter.unusedVariables false
namespace Go.AM
open Go Snow

def nC (n : Nat) : List Sc := [.int .i64 n]
theorem eN : Elt nC 1 := ⟨fun _ => rfl, fun _ => rfl⟩
def arcC (a : Arc) : List Sc := [.int .i64 a.to, .int .i64 a.room, .int .i64 a.back]
theorem eArc : Elt arcC 3 := ⟨fun _ => rfl, fun _ => rfl⟩

/-! ### A part of an element written -/
theorem arr_cons {α : Type} (c : α → List Sc) (x : α) (xs : List α) : arr c (x :: xs) = c x ++ arr c xs := by simp [arr]
theorem StoreR.fld {α : Type} {c : α → List Sc} {s : Nat} (e : Elt c s) {xs : List α} {i f off : Nat} {a a' : α} {v : Sc} (h : xs[i]? = some a) (ho : off = i * s + f) (hf : f < s) (hv : c a' = (c a).take f ++ [v] ++ (c a).drop (f + 1)) : StoreR (arr c xs) off [v] (arr c (xs.set i a')) := by
  subst ho
  refine ⟨?_, ?_⟩
  · have := arr_lt e h (f := f) (n := 1) (by omega)
    simpa using this
  · induction xs generalizing i with
    | nil => simp at h
    | cons x xs ih =>
      have hx := e.len x
      cases i with
      | zero =>
        simp at h; subst h
        rw [List.set_cons_zero, arr_cons, arr_cons, Nat.zero_mul, Nat.zero_add, hv, List.take_append_of_le_length (by omega), List.drop_append_of_le_length (by simp; omega)]
        simp
      | succ i =>
        have := ih (i := i) (by simpa using h)
        rw [List.set_cons_succ, arr_cons, arr_cons, this, show (i + 1) * s + f = s + (i * s + f) by rw [Nat.succ_mul]; omega]
        rw [show s + (i * s + f) + [v].length = s + (i * s + f + [v].length) by omega]
        have h1 : (c x ++ arr c xs).take (s + (i * s + f)) = c x ++ (arr c xs).take (i * s + f) := by
          rw [List.take_append, hx, List.take_of_length_le (by omega), show s + (i * s + f) - s = i * s + f by omega]
        have h2 : (c x ++ arr c xs).drop (s + (i * s + f + [v].length)) = (arr c xs).drop (i * s + f + [v].length) := by
          rw [List.drop_append, hx, List.drop_of_length_le (by omega), show s + (i * s + f + [v].length) - s = i * s + f + [v].length by omega]
          rfl
        rw [h1, h2]
        simp
/-- A whole number among numbers written. -/
theorem StoreR.num {xs : List Nat} {i off n : Nat} (h : i < xs.length) (ho : off = i) : StoreR (arr nC xs) off [.int .i64 n] (arr nC (xs.set i n)) :=
  StoreR.fld eN (f := 0) (List.getElem?_eq_getElem h) (by omega) (by omega) rfl

theorem setGet {α : Type} {l : List α} {i j : Nat} {a x : α} (h : (l.set i a)[j]? = some x) : (j = i ∧ x = a) ∨ (j ≠ i ∧ l[j]? = some x) := by
  by_cases e : i = j
  · subst e
    have hl : i < l.length := by
      rcases Nat.lt_or_ge i l.length with h1 | h1
      · exact h1
      · rw [List.getElem?_eq_none (by simpa using h1)] at h; cases h
    rw [List.getElem?_set_self hl] at h
    injection h with h
    exact .inl ⟨rfl, h.symm⟩
  · rw [List.getElem?_set_ne e] at h
    exact .inr ⟨fun c => e c.symm, h⟩

/-! ### Rows -/
abbrev RL := List (Option (List Nat))
/-- What a cell says of its row. -/
def rowC (h : H) : Option (List Nat) → Sc → Prop
  | none, _ => True
  | some row, s => (row = [] ∧ s = .sl none 0 true 0) ∨ (row ≠ [] ∧ ∃ bi, s = .sl (some (bi, 0)) row.length false 1 ∧ h.get bi = some (arr nC row))
/-- The block of a row. -/
def owns : Option (List Nat) → Sc → Nat → Prop
  | some (_ :: _), .sl (some (bi, _)) _ _ _, x => x = bi
  | _, _, _ => False
structure RowsR (L : RL) (b : Nat) (h : H) : Prop where
  ex : ∃ cells, h.get b = some cells ∧ cells.length = L.length ∧ (∀ (i : Nat) (o : Option (List Nat)) (s : Sc), L[i]? = some o → cells[i]? = some s → rowC h o s ∧ ∀ x, owns o s x → x ≠ b) ∧
    ∀ (i j : Nat) (o o' : Option (List Nat)) (s s' : Sc) (x : Nat), i ≠ j → L[i]? = some o → L[j]? = some o' → cells[i]? = some s → cells[j]? = some s' → owns o s x → ¬ owns o' s' x
def RowsF (L : RL) (b : Nat) (h : H) (x : Nat) : Prop := x = b ∨ ∃ (cells : List Sc) (i : Nat) (o : Option (List Nat)) (s : Sc), h.get b = some cells ∧ L[i]? = some o ∧ cells[i]? = some s ∧ owns o s x
theorem rowC_frame {h h' : H} {o : Option (List Nat)} {s : Sc} (r : rowC h o s) (hf : ∀ x, owns o s x → h'.get x = h.get x) : rowC h' o s := by
  cases o with
  | none => trivial
  | some row =>
    rcases r with r | ⟨hne, bi, rfl, hg⟩
    · exact .inl r
    · refine .inr ⟨hne, bi, rfl, ?_⟩
      rw [← hg]
      refine hf bi ?_
      cases row with
      | nil => exact absurd rfl hne
      | cons => exact rfl
theorem rows_loc (L : RL) (b : Nat) (h h' : H) (r : RowsR L b h) (hf : ∀ x, RowsF L b h x → h'.get x = h.get x) : RowsR L b h' ∧ ∀ x, RowsF L b h' x ↔ RowsF L b h x := by
  obtain ⟨cells, h1, h2, h3, h4⟩ := r.ex
  have hb := hf b (.inl rfl)
  refine ⟨⟨cells, by rw [hb]; exact h1, h2, fun i o s e1 e2 => ⟨rowC_frame (h3 i o s e1 e2).1 fun x hx => hf x (.inr ⟨cells, i, o, s, h1, e1, e2, hx⟩), (h3 i o s e1 e2).2⟩, h4⟩, fun x => ?_⟩
  unfold RowsF
  rw [hb]
/-- Rows, some of them perhaps taken out. -/
def rowsX (L : RL) : Res := ⟨RowsR L, RowsF L, rows_loc L⟩
def rows (out : List (List Nat)) : Res := rowsX (out.map some)

theorem load1 {h : H} {b i : Nat} {cells : List Sc} {s : Sc} (hg : h.get b = some cells) (hs : cells[i]? = some s) : h.load b i 1 = some [s] := by
  obtain ⟨hi, e⟩ := List.getElem?_eq_some_iff.mp hs
  rw [H.load_of hg (by omega), List.drop_eq_getElem_cons hi, e]
  rfl
theorem cellAt {L : RL} {cells : List Sc} (hl : cells.length = L.length) {i : Nat} {o : Option (List Nat)} (h : L[i]? = some o) : ∃ s, cells[i]? = some s := ⟨cells[i]'(by rw [hl]; exact (List.getElem?_eq_some_iff.mp h).1), List.getElem?_eq_getElem _⟩
/-- A row, read. -/
theorem LoadRow.rows {out : List (List Nat)} {i off : Nat} {row : List Nat} (h : out[i]? = some row) (ho : off = i) : LoadRow (rows out) off row.length false 1 (arr nC row) := by
  subst ho
  intro b hh ⟨cells, h1, h2, h3, h4⟩
  have hL : (out.map some)[off]? = some (some row) := by rw [List.getElem?_map, h]; rfl
  obtain ⟨s, hs⟩ := cellAt h2 hL
  refine ⟨.inl rfl, ?_⟩
  rcases (h3 off _ s hL hs).1 with ⟨rfl, rfl⟩ | ⟨hne, bi, rfl, hg⟩
  · exact .inr ⟨rfl, rfl, load1 h1 hs⟩
  · refine .inl ⟨bi, load1 h1 hs, hg, .inr ⟨cells, off, _, _, h1, hL, hs, ?_⟩⟩
    cases row with
    | nil => exact absurd rfl hne
    | cons => exact rfl
theorem LoadS.nilRow {L : RL} {i off : Nat} (h : L[i]? = some (some [])) (ho : off = i) : LoadS (rowsX L) off 1 false (.one (.sl none 0 true 0)) := by
  subst ho
  refine ⟨rfl, fun b hh ⟨cells, h1, h2, h3, h4⟩ => ⟨.inl rfl, ?_⟩⟩
  obtain ⟨s, hs⟩ := cellAt h2 h
  rcases (h3 off _ s h hs).1 with ⟨_, rfl⟩ | ⟨hne, _⟩
  · exact ⟨_, load1 h1 hs, rfl⟩
  · exact absurd rfl hne
theorem Opens.row {L : RL} {i off : Nat} {row : List Nat} (h : L[i]? = some (some row)) (hne : row ≠ []) (ho : off = i) : Opens (rowsX L) (rowsX (L.set i none)) off row.length false 1 (arr nC row) := by
  subst ho
  intro b hh ⟨cells, h1, h2, h3, h4⟩
  obtain ⟨s, hs⟩ := cellAt h2 h
  have hL : ∀ (j : Nat) (o : Option (List Nat)), (L.set off none)[j]? = some o → (j = off ∧ o = none) ∨ (j ≠ off ∧ L[j]? = some o) := fun j o hj => setGet hj
  rcases (h3 off _ s h hs).1 with ⟨rfl, _⟩ | ⟨_, bi, rfl, hg⟩
  · exact absurd rfl hne
  · have hown : owns (some row) (.sl (some (bi, 0)) row.length false 1) bi := by
      cases row with
      | nil => exact absurd rfl hne
      | cons => exact rfl
    refine ⟨bi, load1 h1 hs, hg, ⟨cells, h1, by rw [List.length_set]; exact h2, fun j o s' e1 e2 => ?_, fun j j' o o' s1 s2 x hjj e1 e2 e3 e4 hx hx' => ?_⟩, .inl rfl, .inr ⟨cells, off, _, _, h1, h, hs, hown⟩, fun x hx => ?_⟩
    · rcases hL j o e1 with ⟨rfl, rfl⟩ | ⟨_, e1⟩
      · exact ⟨trivial, fun x hx => by cases hx⟩
      · exact h3 j o s' e1 e2
    · rcases hL j o e1 with ⟨rfl, rfl⟩ | ⟨_, e1⟩
      · cases hx
      · rcases hL j' o' e2 with ⟨rfl, rfl⟩ | ⟨_, e2⟩
        · cases hx'
        · exact h4 j j' o o' s1 s2 x hjj e1 e2 e3 e4 hx hx'
    · rcases hx with rfl | ⟨cells', j, o, s', g1, g2, g3, g4⟩
      · exact ⟨.inl rfl, fun e => (h3 off _ _ h hs).2 bi hown e.symm⟩
      · rw [h1] at g1; injection g1 with g1; subst g1
        rcases hL j o g2 with ⟨rfl, rfl⟩ | ⟨hj, g2⟩
        · cases g4
        · exact ⟨.inr ⟨cells, j, o, s', h1, g2, g3, g4⟩, fun e => by subst e; exact h4 off j _ _ _ _ x (fun c => hj c.symm) h g2 hs g3 hown g4⟩
theorem Closes.row {L : RL} {i off : Nat} {o : Option (List Nat)} {row : List Nat} (h : L[i]? = some o) (ho1 : o = none ∨ o = some []) (hne : row ≠ []) (ho : off = i) : Closes (rowsX L) (rowsX (L.set i (some row))) off row.length false 1 (arr nC row) := by
  subst ho
  intro b bi hh ⟨cells, h1, h2, h3, h4⟩ hg hn
  have hil := (List.getElem?_eq_some_iff.mp h).1
  have hbi : bi ≠ b := fun e => hn (.inl e)
  have hown : owns (some row) (.sl (some (bi, 0)) row.length false 1) bi := by
    cases row with
    | nil => exact absurd rfl hne
    | cons => exact rfl
  refine ⟨.inl rfl, cells, h1, by omega, ?_⟩
  have hset : cells.take off ++ [Sc.sl (some (bi, 0)) row.length false 1] ++ cells.drop (off + 1) = cells.set off (.sl (some (bi, 0)) row.length false 1) := by
    rw [List.set_eq_take_append_cons_drop, if_pos (by omega)]; simp
  rw [hset]
  have hL : ∀ (j : Nat) (o' : Option (List Nat)), (L.set off (some row))[j]? = some o' → (j = off ∧ o' = some row) ∨ (j ≠ off ∧ L[j]? = some o') := fun j o hj => setGet hj
  have hC : ∀ (j : Nat) (s : Sc), (cells.set off (.sl (some (bi, 0)) row.length false 1))[j]? = some s → (j = off ∧ s = .sl (some (bi, 0)) row.length false 1) ∨ (j ≠ off ∧ cells[j]? = some s) := fun j s hj => setGet hj
  have hnew : (hh.put b (cells.set off (.sl (some (bi, 0)) row.length false 1))).get b = some (cells.set off (.sl (some (bi, 0)) row.length false 1)) := by rw [H.get_put, if_pos rfl]
  have own1 : ∀ x, owns (some row) (.sl (some (bi, 0)) row.length false 1) x → x = bi := fun x hx => by
    cases row with
    | nil => exact absurd rfl hne
    | cons => exact hx
  have nob : ∀ (j : Nat) (o' : Option (List Nat)) (s : Sc), j ≠ off → L[j]? = some o' → cells[j]? = some s → ¬ owns o' s bi := fun j o' s _ e1 e2 hx => hn (.inr ⟨cells, j, o', s, h1, e1, e2, hx⟩)
  refine ⟨⟨_, hnew, by simp [h2], fun j o' s e1 e2 => ?_, fun j j' o1 o2 s1 s2 x hjj e1 e2 e3 e4 hx hx' => ?_⟩, .inl rfl, fun x hx => ?_⟩
  · rcases hL j o' e1 with ⟨rfl, rfl⟩ | ⟨hj, e1⟩
    · rcases hC j s e2 with ⟨_, rfl⟩ | ⟨hj, _⟩
      · exact ⟨.inr ⟨hne, bi, rfl, by rw [H.get_put, if_neg hbi]; exact hg⟩, fun x hx => by rw [own1 x hx]; exact hbi⟩
      · exact absurd rfl hj
    · rcases hC j s e2 with ⟨hj', _⟩ | ⟨_, e2⟩
      · exact absurd hj' hj
      · obtain ⟨k1, k2⟩ := h3 j o' s e1 e2
        exact ⟨rowC_frame k1 fun x hx => by rw [H.get_put, if_neg (k2 x hx)], k2⟩
  · rcases hL j o1 e1 with ⟨rfl, rfl⟩ | ⟨hj, f1⟩
    · rcases hC j s1 e3 with ⟨_, rfl⟩ | ⟨hj, _⟩
      · rcases hL j' o2 e2 with ⟨rfl, rfl⟩ | ⟨hj', e2⟩
        · exact hjj rfl
        · rcases hC j' s2 e4 with ⟨c, _⟩ | ⟨_, e4⟩
          · exact hj' c
          · rw [own1 x hx] at hx'; exact nob j' o2 s2 hj' e2 e4 hx'
      · exact absurd rfl hj
    · rcases hC j s1 e3 with ⟨c, _⟩ | ⟨_, f3⟩
      · exact absurd c hj
      · rcases hL j' o2 e2 with ⟨rfl, rfl⟩ | ⟨hj', e2⟩
        · rcases hC j' s2 e4 with ⟨_, rfl⟩ | ⟨hj', _⟩
          · rw [own1 x hx'] at hx; exact nob j o1 s1 hj f1 f3 hx
          · exact absurd rfl hj'
        · rcases hC j' s2 e4 with ⟨c, _⟩ | ⟨_, e4⟩
          · exact absurd c hj'
          · exact h4 j j' o1 o2 s1 s2 x hjj f1 e2 f3 e4 hx hx'
  · rcases hx with rfl | ⟨cells', j, o', s, g1, g2, g3, g4⟩
    · exact .inl (.inl rfl)
    · rw [hnew] at g1; injection g1 with g1; subst g1
      rcases hL j o' g2 with ⟨rfl, rfl⟩ | ⟨hj, g2⟩
      · rcases hC j s g3 with ⟨_, rfl⟩ | ⟨hj, _⟩
        · exact .inr (own1 x g4)
        · exact absurd rfl hj
      · rcases hC j s g3 with ⟨c, _⟩ | ⟨_, g3⟩
        · exact absurd c hj
        · exact .inl (.inr ⟨cells, j, o', s, h1, g2, g3, g4⟩)
theorem reps_one (s : Sc) : ∀ n, reps [s] n = List.replicate n s
  | 0 => rfl
  | n + 1 => by rw [reps, reps_one s n]; rfl
/-- Empty rows, as they are made. -/
theorem OfRaw.rows {n : Nat} (hn : 0 < n) : OfRaw (rows (List.replicate n [])) (zeros n [.sl none 0 true 0]) := by
  rw [zeros_reps, reps_one]
  have hc : ∀ (i : Nat) (s : Sc), (List.replicate n (Sc.sl none 0 true 0))[i]? = some s → s = .sl none 0 true 0 := fun i s h => by
    rw [List.getElem?_replicate] at h
    split at h
    · injection h with h; exact h.symm
    · cases h
  have hL : ∀ (i : Nat) (o : Option (List Nat)), ((List.replicate n ([] : List Nat)).map some)[i]? = some o → o = some [] := fun i o h => by
    rw [List.getElem?_map, List.getElem?_replicate] at h
    split at h
    · injection h with h; exact h.symm
    · cases h
  refine ⟨fun e => ?_, fun b h hg => ⟨⟨_, hg, by simp, fun i o s h1 h2 => ?_, fun i j o o' s s' x hij h1 h2 h3 h4 hx => ?_⟩, fun x => ⟨fun hx => ?_, fun hx => .inl hx⟩⟩⟩
  · have := congrArg List.length e
    simp at this; omega
  · rw [hc i s h2, hL i o h1]
    exact ⟨.inl ⟨rfl, rfl⟩, fun x hx => by cases hx⟩
  · rw [hL i o h1] at hx; cases hx
  · rcases hx with hx | ⟨cells, i, o, s, h1, h2, h3, h4⟩
    · exact hx
    · rw [hL i o h2] at h4; cases h4
end Go.AM
end

section
/- Walks: what all of them use. -/
set_option linter.unusedSimpArgs false
set_option linter.unusedVariables false
namespace Go.AM
open Go Go.Proofs

def idxI {α : Type} (p : α → Bool) (l : List α) : Int := match l.findIdx? p with | some i => i | none => -1
theorem wsucc (i : Nat) (h : i < 4611686018427387904) : Sc.int .i64 (IntKind.wrap .i64 ((i : Int) + 1)) = Sc.int .i64 ((i + 1 : Nat) : Int) := by rw [w64_id (by omega) (by omega)]; rfl
theorem idxI_found {α : Type} {p : α → Bool} {xs : List α} {n i : Nat} {a : α} (hno : ∀ j b, j < i → xs[j]? = some b → p b = false) (ha : xs[i]? = some a) (hp : p a = true) (hi : i < n) : idxI p (xs.take n) = i := by
  have hl : i < xs.length := by
    rcases Nat.lt_or_ge i xs.length with h1 | h1
    · exact h1
    · rw [List.getElem?_eq_none h1] at ha; cases ha
  have h : (xs.take n).findIdx? p = some i := by
    rw [List.findIdx?_eq_some_iff_getElem]
    refine ⟨by simp; omega, ?_, fun j hj => ?_⟩
    · rw [List.getElem_take]
      rw [List.getElem?_eq_getElem hl] at ha
      injection ha with ha
      rw [ha]; exact hp
    · rw [List.getElem_take]
      have := hno j _ hj (List.getElem?_eq_getElem (by omega))
      simp [this]
  unfold idxI
  rw [h]
theorem idxI_none {α : Type} {p : α → Bool} {xs : List α} {n : Nat} (hno : ∀ j b, j < n → xs[j]? = some b → p b = false) : idxI p (xs.take n) = -1 := by
  have h : (xs.take n).findIdx? p = none := by
    rw [List.findIdx?_eq_none_iff]
    intro x hx
    obtain ⟨j, hj⟩ := List.getElem?_of_mem hx
    have hjn : j < n := by
      rcases Nat.lt_or_ge j n with h1 | h1
      · exact h1
      · rw [List.getElem?_take_eq_none h1] at hj; cases hj
    rw [List.getElem?_take_of_lt hjn] at hj
    exact hno j x hjn hj
  unfold idxI
  rw [h]
/-- One more. -/
theorem noMore {α : Type} {p : α → Bool} {xs : List α} {i : Nat} {a : α} (hno : ∀ j b, j < i → xs[j]? = some b → p b = false) (ha : xs[i]? = some a) (hp : p a = false) : ∀ j b, j < i + 1 → xs[j]? = some b → p b = false := fun j b hj hb => by
  rcases Nat.lt_or_ge j i with h | h
  · exact hno j b h hb
  · have : j = i := by omega
    subst this
    rw [ha] at hb
    injection hb with hb
    subst hb; exact hp
theorem wpred (n : Nat) (h0 : 0 < n) (h : n < 4611686018427387904) : IntKind.wrap .i64 ((n : Int) - 1) = ((n - 1 : Nat) : Int) := by rw [w64_id (by omega) (by omega)]; omega

theorem zerosI (n : Nat) : zeros n [.int .i64 0] = arr iC (List.replicate n 0) := by
  rw [zeros_reps, reps_one]
  induction n with
  | zero => rfl
  | succ n ih => rw [List.replicate_succ, List.replicate_succ, arr_cons, ← ih]; rfl
theorem wnat (n : Nat) (h : n < 4611686018427387904) : IntKind.wrap .i64 (n : Int) = (n : Int) := w64_id (by omega) (by omega)
theorem wrap_ok : Snow.Wr w64 := fun x h1 h2 => w64_id h1 h2
end Go.AM
end

section
/- Walks: a piece of a body by what it leaves. -/
set_option linter.unusedSimpArgs false
set_option linter.unusedVariables false
namespace Go.AM
open Go Go.Proofs

theorem stackQ_append (X : Env) (nt : Nat) (S : List Kt) (Q : Ex → FF → H → Prop) : ∀ A : List Kt, stackQ X nt (A ++ S) Q = stackQ X nt A (stackQ X nt S Q)
  | [] => rfl
  | .seq b :: A => by
    show ThenF (fun f h => RunsF X nt b f h (stackQ X nt (A ++ S) Q)) (stackQ X nt (A ++ S) Q) = ThenF (fun f h => RunsF X nt b f h (stackQ X nt A (stackQ X nt S Q))) (stackQ X nt A (stackQ X nt S Q))
    rw [stackQ_append X nt S Q A]
  | .block id :: A => by
    show InBlockF id (stackQ X nt (A ++ S) Q) = InBlockF id (stackQ X nt A (stackQ X nt S Q))
    rw [stackQ_append X nt S Q A]
theorem Sem_append {X : Env} {nt : Nat} {F : Fo} {A S : List Kt} {st : St} {G : Gh} {Q : Ex → FF → H → Prop} (h : Sem X nt F A st G (stackQ X nt S Q)) : Sem X nt F (A ++ S) st G Q := by
  cases F <;> (unfold Sem at h ⊢; dsimp only at h ⊢; rw [stackQ_append]; exact h)
section
variable {X : Env} {nt k : Nat} {K : KC} {F : Fo} {S : List Kt} {st : St}
/-- What a piece has to come to. -/
def CutK (k : Nat) {T : Type} (I : T → Prop) (ip : T → P) (ib : T → BL) (inb : T → Nat) : KC := fun e p bl nb => e = .norm ∧ ∃ t tl, I t ∧ ReB k tl p bl (ip t) (ib t) (inb t)
theorem Rn.cut (A : List Kt) {b : Code} {T : Type} (I : T → Prop) (ip : T → P) (ib : T → BL) (inb : T → Nat) (h : Rn X nt k F A st (CutK k I ip ib inb)) (hr : ∀ t, I t → Rn X nt k (.code b) S ⟨ip t, [], ib t, inb t, [], []⟩ K) : Rn X nt k F (A ++ Kt.seq b :: S) st K := by
  refine ⟨fun G hG Q hK => Sem_append (h.run G hG _ fun e p bl nb ⟨he, t, tl, hI, hre⟩ σ f hh s => ?_)⟩
  subst he
  exact (hr t hI).run G hG Q hK _ f hh (hre.ok hG s)
theorem Rn.cutS (A : List Kt) {b : Code} {S0 : List Kt} (hS : S0 = A ++ Kt.seq b :: S) {T : Type} (I : T → Prop) (ip : T → P) (ib : T → BL) (inb : T → Nat) (h : Rn X nt k F A st (CutK k I ip ib inb)) (hr : ∀ t, I t → Rn X nt k (.code b) S ⟨ip t, [], ib t, inb t, [], []⟩ K) : Rn X nt k F S0 st K := by
  subst hS
  exact Rn.cut A I ip ib inb h hr
theorem Rn.cutEnd (hz : ZeroFlat X) (n : Nat) {T : Type} {I : T → Prop} {ip : T → P} {ib : T → BL} {inb : T → Nat} {p : P} {bl : BL} {nb : Nat} (hx : exec X nt n F S st = some (.fin .norm p bl nb)) (t : T) (tl : List (Option Nat)) (h2 : I t) (h3 : ReB k tl p bl (ip t) (ib t) (inb t)) : Rn X nt k F S st (CutK k I ip ib inb) :=
  ⟨Run.step hz n hx ⟨rfl, t, tl, h2, h3⟩⟩
end
theorem wint {x : Int} (h1 : -9223372036854775808 ≤ x) (h2 : x < 9223372036854775808) : Sc.int .i64 (IntKind.wrap .i64 x) = Sc.int .i64 x := by rw [w64_id h1 h2]
end Go.AM
end
