/- Walks: loops, and lists in blocks. No program here. -/
import Derived.Test.YtlkbcjhemhmfoaaGreatDoorWa0
set_option linter.unusedSimpArgs false
set_option linter.unusedVariables false
namespace Go.AM
open Go

section
variable {X : Env} {nt k : Nat} {K : KC} {F : Fo} {S S' : List Kt} {st st1 : St}

/-- What a round has to come to. -/
def LK (X : Env) (nt k : Nat) (S : List Kt) (K : KC) {T : Type} (m : T → Nat) (I : T → Prop) (ip : T → P) (ib : T → BL) (inb : T → Nat) (t : T) : KC := fun e p' bl' nb' => match e with
  | .norm => ∃ t' tl, m t' < m t ∧ I t' ∧ ReB k tl p' bl' (ip t') (ib t') (inb t')
  | e => Rn X nt k (.leave e) S ⟨p', [], bl', nb', [], []⟩ K
theorem Rn.loop (hz : ZeroFlat X) (n : Nat) {b : Code} (hx : exec X nt n F S st = some (.loop b S' st1)) {T : Type} (m : T → Nat) (I : T → Prop) (ip : T → P) (ib : T → BL) (inb : T → Nat) (t0 : T) (tl0 : List (Option Nat)) (h0 : I t0) (hre : ReB k tl0 st1.p st1.bl (ip t0) (ib t0) (inb t0))
    (hr : ∀ t, I t → Rn X nt k (.code b) [] ⟨ip t, [], ib t, inb t, [], []⟩ (LK X nt k S' K m I ip ib inb t)) : Rn X nt k F S st K := by
  refine ⟨Run.step hz n hx ⟨T, m, I, ip, ib, inb, ⟨t0, tl0, h0, hre⟩, fun t ht => ?_⟩⟩
  intro G hG Q hK
  refine (hr t ht).run G hG Q fun e p bl nb hk => hK e p bl nb ?_
  cases e with
  | norm => exact hk
  | exit id => exact hk.run
  | ret => exact hk.run
theorem Rn.again (hz : ZeroFlat X) (n : Nat) {T : Type} {m : T → Nat} {I : T → Prop} {ip : T → P} {ib : T → BL} {inb : T → Nat} {t : T} {p : P} {bl : BL} {nb : Nat} (hx : exec X nt n F S st = some (.fin .norm p bl nb)) (t' : T) (tl : List (Option Nat)) (h1 : m t' < m t) (h2 : I t') (h3 : ReB k tl p bl (ip t') (ib t') (inb t')) :
    Rn X nt k F S st (LK X nt k S' K m I ip ib inb t) := ⟨Run.step hz n hx ⟨t', tl, h1, h2, h3⟩⟩
def notNorm : Ex → Bool
  | .norm => false
  | _ => true
theorem Rn.out (hz : ZeroFlat X) (n : Nat) {T : Type} {m : T → Nat} {I : T → Prop} {ip : T → P} {ib : T → BL} {inb : T → Nat} {t : T} {e : Ex} {p : P} {bl : BL} {nb : Nat} (hx : exec X nt n F S st = some (.fin e p bl nb)) (he : notNorm e = true) (h1 : Rn X nt k (.leave e) S' ⟨p, [], bl, nb, [], []⟩ K) :
    Rn X nt k F S st (LK X nt k S' K m I ip ib inb t) := by
  refine ⟨Run.step hz n hx ?_⟩
  cases e with
  | norm => cases he
  | exit id => exact h1
  | ret => exact h1
/-- With less known. -/
theorem Rn.weaken {c : Code} {p p2 : P} {bl bl2 : BL} {nb nb2 : Nat} {dc dc2 : DC} {sp sp2 : Tk} {ss ss2 : Ts} (tl : List (Option Nat)) (r : ReB k tl p bl p2 bl2 nb2) (h : Rn X nt k (.code c) S ⟨p2, dc2, bl2, nb2, sp2, ss2⟩ K) : Rn X nt k (.code c) S ⟨p, dc, bl, nb, sp, ss⟩ K := ⟨Run.weaken tl r h.run⟩
end

/-! ### Lists in blocks -/
structure Elt {α : Type} (c : α → List Sc) (s : Nat) : Prop where
  len : ∀ a, (c a).length = s
  flat : ∀ a, allB flatSc (c a) = true
def arr {α : Type} (c : α → List Sc) (xs : List α) : List Sc := xs.flatMap c
section
variable {α : Type} {c : α → List Sc} {s : Nat}
theorem arr_len (e : Elt c s) : ∀ xs : List α, (arr c xs).length = xs.length * s
  | [] => by simp [arr]
  | x :: xs => by
    have := arr_len e xs
    unfold arr at this ⊢
    rw [List.flatMap_cons, List.length_append, this, e.len, List.length_cons, Nat.succ_mul]; omega
theorem arr_drop (e : Elt c s) : ∀ (xs : List α) (i : Nat), (arr c xs).drop (i * s) = arr c (xs.drop i)
  | xs, 0 => by simp
  | [], i + 1 => by simp [arr]
  | x :: xs, i + 1 => by
    unfold arr
    rw [List.flatMap_cons, Nat.succ_mul, Nat.add_comm, ← List.drop_drop, List.drop_left' (e.len x)]
    exact arr_drop e xs i
theorem arr_get (e : Elt c s) {xs : List α} {i : Nat} {a : α} (h : xs[i]? = some a) (f n : Nat) (hf : f + n ≤ s) : ((arr c xs).drop (i * s + f)).take n = ((c a).drop f).take n := by
  rw [← List.drop_drop, arr_drop e]
  have hi : i < xs.length := by
    rcases Nat.lt_or_ge i xs.length with h1 | h1
    · exact h1
    · rw [List.getElem?_eq_none h1] at h; cases h
  have ha : xs[i] = a := by rw [List.getElem?_eq_getElem hi] at h; injection h
  rw [List.drop_eq_getElem_cons hi, ha]
  unfold arr
  rw [List.flatMap_cons, List.drop_append_of_le_length (by rw [e.len]; omega), List.take_append_of_le_length (by rw [List.length_drop, e.len]; omega)]
theorem arr_lt (e : Elt c s) {xs : List α} {i : Nat} {a : α} (h : xs[i]? = some a) {f n : Nat} (hf : f + n ≤ s) : i * s + f + n ≤ (arr c xs).length := by
  rw [arr_len e]
  have hi : i < xs.length := by
    rcases Nat.lt_or_ge i xs.length with h1 | h1
    · exact h1
    · rw [List.getElem?_eq_none h1] at h; cases h
  have : (i + 1) * s ≤ xs.length * s := Nat.mul_le_mul_right s hi
  rw [Nat.succ_mul] at this
  omega
theorem arr_flat (e : Elt c s) : ∀ xs : List α, allB flatSc (arr c xs) = true
  | [] => rfl
  | x :: xs => by
    unfold arr
    rw [List.flatMap_cons]
    exact allB_append (e.flat x) (arr_flat e xs)
theorem arr_append (xs ys : List α) : arr c (xs ++ ys) = arr c xs ++ arr c ys := by simp [arr]
/-- An element that is a struct. -/
theorem LoadR.elt (e : Elt c s) {xs : List α} {i off : Nat} {a : α} (h : xs[i]? = some a) (ho : off = i * s) : LoadR (arr c xs) off s true (.agg (c a)) := by
  subst ho
  have h1 := arr_get e h 0 s (by omega)
  have h2 := arr_lt e h (f := 0) (n := s) (by omega)
  refine ⟨by omega, ?_, e.flat a⟩
  rw [Nat.add_zero] at h1
  rw [h1]
  simp [mkAV, ← e.len a]
/-- A part of an element. -/
theorem LoadR.fld (e : Elt c s) {xs : List α} {i off f : Nat} {a : α} {v : Sc} (h : xs[i]? = some a) (ho : off = i * s + f) (hv : (c a)[f]? = some v) (hf : flatSc v = true) : LoadR (arr c xs) off 1 false (.one v) := by
  subst ho
  have hlt : f < s := by
    rw [← e.len a]
    rcases Nat.lt_or_ge f (c a).length with h1 | h1
    · exact h1
    · rw [List.getElem?_eq_none h1] at hv; cases hv
  have h1 := arr_get e h f 1 (by omega)
  have h2 := arr_lt e h (f := f) (n := 1) (by omega)
  refine ⟨h2, ?_, hf⟩
  rw [h1]
  have hl : f < (c a).length := by rw [e.len]; exact hlt
  rw [List.drop_eq_getElem_cons hl]
  rw [List.getElem?_eq_getElem hl] at hv
  injection hv with hv
  rw [hv]
  rfl
end


/-! ### append -/
theorem cells_arr {α : Type} {c : α → List Sc} {s : Nat} (e : Elt c s) {xs : List α} {n : Nat} (h : n ≤ xs.length) : CellsR (arr c xs) 0 (n * s) (arr c (xs.take n)) := by
  refine ⟨by rw [arr_len e, Nat.zero_add]; exact Nat.mul_le_mul_right s h, ?_⟩
  rw [List.drop_zero]
  have : arr c xs = arr c (xs.take n) ++ arr c (xs.drop n) := by rw [← arr_append, List.take_append_drop]
  rw [this, List.take_left']
  rw [arr_len e, List.length_take, Nat.min_eq_left h]
theorem cells_all {α : Type} {c : α → List Sc} {s : Nat} (e : Elt c s) (xs : List α) : CellsR (arr c xs) 0 (xs.length * s) (arr c xs) := by
  have := cells_arr e (xs := xs) (n := xs.length) (Nat.le_refl _)
  rwa [List.take_length] at this
theorem cells_one {α : Type} {c : α → List Sc} {s : Nat} (e : Elt c s) (a : α) : CellsR (c a) 0 (1 * s) (arr c [a]) := by
  have h := e.len a
  refine ⟨by omega, ?_⟩
  rw [List.drop_zero, List.take_of_length_le (by omega)]
  simp [arr]
theorem Src.raw {size : Nat} {bl : BL} {j o n sz : Nat} {w : Bool} {l xs : List Sc} (h1 : sz = size) (h2 : clOf bl j = some (w, .raw l)) (h3 : CellsR l o (n * size) xs) : Src size bl (some (j, o)) n sz xs := ⟨h1, w, _, h2, h3⟩
theorem Src.ex {size : Nat} {bl : BL} {j o n sz : Nat} {w : Bool} {l xs : List Sc} (h1 : sz = size) (h2 : clOf bl j = some (w, .ex l)) (hf : allB flatSc l = true) (h3 : CellsR l o (n * size) xs) : Src size bl (some (j, o)) n sz xs := ⟨h1, w, _, h2, hf, h3⟩

section
variable {X : Env} {nt k : Nat} {K : KC} {F : Fo} {S S' : List Kt} {st st1 st2 : St}
/-- append to a slice that is full. -/
theorem Rn.appF (hz : ZeroFlat X) (n : Nat) {e : TypeId} {a a' : Option (Nat × Nat)} {sn sz xn sz' : Nat} {full : Bool} {r : Rs} (hx : exec X nt n F S st = some (.app e a sn full sz a' xn sz' r st1)) {old new : List Sc} (L : List Sc) (hs : Src (X.T e).size st1.bl a sn sz old) (hn : Src (X.T e).size st1.bl a' xn sz' new) (hL : old ++ new = L)
    (h3 : (Nat.blt 0 (X.T e).size && lenK (X.T e).zero (X.T e).size) = true) (m : Nat) (hm : sn + xn = m) (hm2 : m ≤ 100000000000) (hby : Nat.ble (X.T e).bytes 100 = true) (h6 : 0 < xn) (hf : full = true ∨ a = none) (hst : appSt r.C r.i L [] st1 = some st2)
    (hr : Rn X nt k (.put r.C r.o.dst (.one (.sl (some (st1.nb, 0)) m false (X.T e).size)) r.rest r.i) r.S st2 K) : Rn X nt k F S st K := by
  subst hL
  subst hm
  have h4 : (sn + xn) * (X.T e).bytes ≤ 35184372088832 := Nat.le_trans (Nat.mul_le_mul hm2 (Nat.le_of_ble_eq_true hby)) (by decide)
  have h5 : sn + xn ≤ 35184372088832 := by omega
  refine ⟨Run.step hz n hx ⟨old, new, hs, hn, h3, h4, h5, fun h => by omega, fun _ => ⟨fun _ => ⟨st2, hst, hr.run⟩, fun hff j o ha => ?_⟩⟩⟩
  rcases hf with h | h
  · rw [hff] at h; cases h
  · rw [h] at ha; cases ha
/-- append to a slice that may have more room. -/
theorem Rn.appN (hz : ZeroFlat X) (n : Nat) {e : TypeId} {j o : Nat} {a' : Option (Nat × Nat)} {sn sz xn sz' : Nat} {r : Rs} (hx : exec X nt n F S st = some (.app e (some (j, o)) sn false sz a' xn sz' r st1)) {old new : List Sc} (L : List Sc) (hs : Src (X.T e).size st1.bl (some (j, o)) sn sz old) (hn : Src (X.T e).size st1.bl a' xn sz' new) (hL : old ++ new = L)
    (h3 : (Nat.blt 0 (X.T e).size && lenK (X.T e).zero (X.T e).size) = true) (m : Nat) (hm : sn + xn = m) (hm2 : m ≤ 100000000000) (hby : Nat.ble (X.T e).bytes 100 = true) (h6 : 0 < xn) {l0 : List Sc} (hc : clOf st1.bl j = some (true, .raw l0)) (hst : appSt r.C r.i L [j] st1 = some st2)
    (hr : Rn X nt k (.put r.C r.o.dst (.one (.sl (some (st1.nb, 0)) m false (X.T e).size)) r.rest r.i) r.S st2 K) : Rn X nt k F S st K := by
  subst hL
  subst hm
  have h4 : (sn + xn) * (X.T e).bytes ≤ 35184372088832 := Nat.le_trans (Nat.mul_le_mul hm2 (Nat.le_of_ble_eq_true hby)) (by decide)
  have h5 : sn + xn ≤ 35184372088832 := by omega
  refine ⟨Run.step hz n hx ⟨old, new, hs, hn, h3, h4, h5, fun h => by omega, fun _ => ⟨fun h => ?_, fun hff j' o' ha => ?_⟩⟩⟩
  · rcases h with h | h <;> cases h
  · injection ha with ha
    injection ha with h1 h2
    subst h1
    exact ⟨_, hc, (fun s h => by cases h), st2, hst, hr.run⟩
/-- append of nothing. -/
theorem Rn.app0 (hz : ZeroFlat X) (n : Nat) {e : TypeId} {a a' : Option (Nat × Nat)} {sn sz xn sz' : Nat} {full : Bool} {r : Rs} (hx : exec X nt n F S st = some (.app e a sn full sz a' xn sz' r st1)) {old new : List Sc} (hs : Src (X.T e).size st1.bl a sn sz old) (hn : Src (X.T e).size st1.bl a' xn sz' new)
    (h3 : (Nat.blt 0 (X.T e).size && lenK (X.T e).zero (X.T e).size) = true) (hm2 : sn + xn ≤ 100000000000) (hby : Nat.ble (X.T e).bytes 100 = true) (h6 : xn = 0) (hst : app0St r.C r.i st1 = some st2)
    (hr : Rn X nt k (.put r.C r.o.dst (.one (nilOr a sn full sz)) r.rest r.i) r.S st2 K) : Rn X nt k F S st K := 
  ⟨Run.step hz n hx ⟨old, new, hs, hn, h3, Nat.le_trans (Nat.mul_le_mul hm2 (Nat.le_of_ble_eq_true hby)) (by decide), by omega, fun _ => ⟨st2, hst, hr.run⟩, fun h => by omega⟩⟩

/-- A function's end. -/
theorem Rn.fin (hz : ZeroFlat X) (n : Nat) {rs : List ResultVar} {A : Type} {V : A → AV} {B : A → BL} {nb' : A → Nat} {v : AV} {e : Ex} {p : P} {bl : BL} {nb : Nat} (hx : exec X nt n F S st = some (.fin e p bl nb)) (hex : exOK e = true) (hv : resV X rs p bl = some v) (a : A) (tl : List (Option Nat)) (h1 : lenK tl (nb' a) = true) (h2 : idTl k tl = true)
    (h3 : RvAV tl (V a) v) (h4 : RvBL tl bl (B a)) (h5 : nodupB (fromJ tl (B a)) = true) (h6 : nodupB ((B a).map Bk.j) = true) (h7 : allB (fun e => e.w && (match e.born with | none => true | some _ => false)) (B a) = true) : Rn X nt k F S st (FinK X rs k A V B nb') := by
  refine ⟨Run.step hz n hx ⟨hex, v, hv, a, tl, h1, h2, h3, h4, h5, h6, ?_⟩⟩
  have all : ∀ l : BL, allB (fun e => e.w && (match e.born with | none => true | some _ => false)) l = true → ∀ e ∈ l, e.born = none ∧ e.w = true := by
    intro l
    induction l with
    | nil => intro _ e he; cases he
    | cons b l ih =>
      intro hl e he
      simp only [allB, Bool.and_eq_true] at hl
      rcases List.mem_cons.1 he with e1 | e1
      · subst e1
        refine ⟨?_, hl.1.1⟩
        cases hb : e.born with
        | none => rfl
        | some k => rw [hb] at hl; simp at hl
      · exact ih hl.2 e e1
  exact all _ h7

/-- A call by what is known of it. -/
theorem Rn.call (hz : ZeroFlat X) (n : Nat) {g : FuncId} {args args0 : List AV} {bl0 : BL} {nb0 : Nat} {A : Type} {V : A → AV} {B : A → BL} {nb' : A → Nat} {r : Rs} (hx : exec X nt n F S st = some (.call g args r st1)) (c : Ct X g args0 bl0 nb0 A V B nb') (tl : List (Option Nat)) (h1 : lenK tl nb0 = true) (h2 : RvArgs tl args0 args) (h3 : RvBL tl st1.bl bl0) (h4 : nodupB (fromJ tl bl0) = true) (h5 : nodupB (bl0.map Bk.j) = true)
    (hd : (r.C.dr && !isW X r.o.op) = false) (hr : ∀ a, ∃ v' st', callSt r.C r.i tl nb0 bl0 (V a) (B a) (nb' a) st1 = some (v', st') ∧ Rn X nt k (.put r.C r.o.dst v' r.rest r.i) r.S st' K) : Rn X nt k F S st K := by
  refine ⟨Run.step hz n hx ⟨A, V, B, nb', tl, args0, bl0, nb0, c, h1, h2, h3, h4, h5, ?_⟩⟩
  rw [hd]
  intro a
  obtain ⟨v', st', h6, h7⟩ := hr a
  exact ⟨v', st', h6, h7.run⟩
end

end Go.AM
