/- Walks: registers. -/
import Derived.Test.YtlkbcjhemhmfoaaGreatDoorWa3
set_option linter.unusedSimpArgs false
set_option linter.unusedVariables false
namespace Go.AM
open Go Go.Proofs
set_option maxRecDepth 10000

def idxI {α : Type} (p : α → Bool) (l : List α) : Int := match l.findIdx? p with | some i => i | none => -1
def isGrant (right : Int) (e : Evt) : Bool := (e.kind == 1) && (e.right == right)

theorem wsucc (i : Nat) (h : i < 4611686018427387904) : Sc.int .i64 (IntKind.wrap .i64 ((i : Int) + 1)) = Sc.int .i64 ((i + 1 : Nat) : Int) := by rw [w64_id (by omega) (by omega)]; rfl
theorem idxI_found {α : Type} {p : α → Bool} {xs : List α} {n i : Nat} {a : α} (hno : ∀ j b, j < i → xs[j]? = some b → p b = false) (ha : xs[i]? = some a) (hp : p a = true) (hi : i < n) : idxI p (xs.take n) = i := by
  have hl : i < xs.length := by
    rcases Nat.lt_or_ge i xs.length with h1 | h1
    · exact h1
    · rw [List.getElem?_eq_none h1] at ha; cases ha
  have h : (xs.take n).findIdx? p = some i := by
    rw [List.findIdx?_eq_some_iff_getElem]
    refine ⟨by simp; omega, ?_, fun j hj => ?_⟩
    · rw [List.getElem_take]
      rw [List.getElem?_eq_getElem hl] at ha
      injection ha with ha
      rw [ha]; exact hp
    · rw [List.getElem_take]
      have := hno j _ hj (List.getElem?_eq_getElem (by omega))
      simp [this]
  unfold idxI
  rw [h]
theorem idxI_none {α : Type} {p : α → Bool} {xs : List α} {n : Nat} (hno : ∀ j b, j < n → xs[j]? = some b → p b = false) : idxI p (xs.take n) = -1 := by
  have h : (xs.take n).findIdx? p = none := by
    rw [List.findIdx?_eq_none_iff]
    intro x hx
    obtain ⟨j, hj⟩ := List.getElem?_of_mem hx
    have hjn : j < n := by
      rcases Nat.lt_or_ge j n with h1 | h1
      · exact h1
      · rw [List.getElem?_take_eq_none h1] at hj; cases hj
    rw [List.getElem?_take_of_lt hjn] at hj
    exact hno j x hjn hj
  unfold idxI
  rw [h]
/-- One more. -/
theorem noMore {α : Type} {p : α → Bool} {xs : List α} {i : Nat} {a : α} (hno : ∀ j b, j < i → xs[j]? = some b → p b = false) (ha : xs[i]? = some a) (hp : p a = false) : ∀ j b, j < i + 1 → xs[j]? = some b → p b = false := fun j b hj hb => by
  rcases Nat.lt_or_ge j i with h | h
  · exact hno j b h hb
  · have : j = i := by omega
    subst this
    rw [ha] at hb
    injection hb with hb
    subst hb; exact hp
theorem c_granted1 (e : Evt) (right : Int) : Ct0 envB 169 [.agg e.c, .one (.ptr (some (0, 0)))] [⟨0, false, none, .ex [.int .i64 right]⟩] 1 (.one (.bool (isGrant right e))) := by
  refine Ct.of zB (fn := Tryz.f169) (by kernel_rfl) (by kernel_rfl) rfl rfl ?_
  repeat' first
    | (rename_i h; exact absurd h (by decide))
    | (refine Rn.fin0 zB 1000 rfl rfl rfl rfl ?_; first | rfl | (simp [isGrant, *]; done) | (simp_all [isGrant]; done))
    | refine Rn.split zB 1000 rfl (fun h => ?_) (fun h => ?_)

theorem c_idxG (xs : List Evt) (n : Nat) (full : Bool) (hn : n ≤ xs.length) (hb : n < 1152921504606846976) (right : Int) : Ct0 envB 168 [slA 0 0 n full 10, .one (.fn 169 [(1, 0)])] [⟨0, false, none, .raw (arr Evt.c xs)⟩, ⟨1, false, none, .ex [.int .i64 right]⟩] 2 (.one (.int .i64 (idxI (isGrant right) (xs.take n)))) := by
  refine Ct.of zB (fn := Tryz.f168) (by kernel_rfl) (by kernel_rfl) rfl rfl ?_
  refine Rn.loop zB 1000 rfl (T := Nat) (fun i => n - i) (fun i => i ≤ n ∧ ∀ j a, j < i → xs[j]? = some a → isGrant right a = false) (fun i => [(8, .one (.int .i64 i)), (7, .one (.int .i64 n)), (1, .one (.fn 169 [(1, 0)])), (0, slA 0 0 n full 10)]) (fun _ => [⟨0, false, none, .raw (arr Evt.c xs)⟩, ⟨1, false, none, .ex [.int .i64 right]⟩]) (fun _ => 2) (0) [some 0, some 1] ⟨Nat.zero_le _, fun j _ h => absurd h (Nat.not_lt_zero j)⟩ ⟨rfl, rfl, rfl, rfl, rfl, by (repeat' first | exact trivial | exact rfl | exact Or.inl (And.intro rfl rfl) | exact wsucc _ (by omega) | refine And.intro ?_ ?_), by (repeat' first | exact trivial | exact rfl | exact (by decide) | exact Or.inl (And.intro rfl rfl) | refine And.intro ?_ ?_ | refine Exists.intro _ (Exists.intro _ (And.intro rfl (And.intro (by decide) ?_))))⟩ ?_
  rintro i ⟨hi, hno⟩
  refine Rn.split zB 1000 rfl (fun h => ?_) (fun h => ?_)
  · have hlt : i < n := by simpa using h
    obtain ⟨a, ha⟩ : ∃ a, xs[i]? = some a := ⟨xs[i], List.getElem?_eq_getElem (by omega)⟩
    refine Rn.ask zB 1000 rfl ⟨by omega, by omega⟩ ?_
    refine Rn.loadR zB 1000 rfl (LoadR.elt eEvt ha (by simp)) ?_
    refine Rn.call0 zB 1000 rfl (c_granted1 a right) [some 1] rfl rfl (by (repeat' first | exact trivial | exact rfl | exact Or.inl (And.intro rfl rfl) | exact wsucc _ (by omega) | refine And.intro ?_ ?_)) (by (repeat' first | exact trivial | exact rfl | exact (by decide) | exact Or.inl (And.intro rfl rfl) | refine And.intro ?_ ?_ | refine Exists.intro _ (Exists.intro _ (And.intro rfl (And.intro (by decide) ?_))))) rfl rfl rfl rfl rfl ?_
    refine Rn.split zB 1000 rfl (fun h => ?_) (fun h => ?_)
    · refine Rn.out zB 1000 rfl rfl ?_
      refine Rn.fin0 zB 1000 rfl rfl rfl rfl ?_
      rw [idxI_found hno ha h hlt]
    · refine Rn.again zB 1000 rfl (i + 1) [some 0, some 1] (by omega) ⟨by omega, noMore hno ha h⟩ ⟨rfl, rfl, rfl, rfl, rfl, by (repeat' first | exact trivial | exact rfl | exact Or.inl (And.intro rfl rfl) | exact wsucc _ (by omega) | refine And.intro ?_ ?_), by (repeat' first | exact trivial | exact rfl | exact (by decide) | exact Or.inl (And.intro rfl rfl) | refine And.intro ?_ ?_ | refine Exists.intro _ (Exists.intro _ (And.intro rfl (And.intro (by decide) ?_))))⟩
  · refine Rn.out zB 1000 rfl rfl ?_
    refine Rn.fin0 zB 1000 rfl rfl rfl rfl ?_
    have hge : n ≤ i := by simpa using h
    rw [idxI_none fun j b hj => hno j b (by omega)]

/-- What IndexFunc finds. -/
theorem idxI_cases {α : Type} (p : α → Bool) (l : List α) : (idxI p l = -1 ∧ l.find? p = none) ∨ ∃ (i : Nat) (a : α), idxI p l = i ∧ l[i]? = some a ∧ l.find? p = some a := by
  unfold idxI
  cases h : l.findIdx? p with
  | none =>
    refine .inl ⟨rfl, ?_⟩
    rw [List.findIdx?_eq_none_iff] at h
    rw [List.find?_eq_none]
    intro x hx
    simp [h x hx]
  | some i =>
    rw [List.findIdx?_eq_some_iff_getElem] at h
    obtain ⟨hl, hp, hno⟩ := h
    refine .inr ⟨i, l[i], rfl, List.getElem?_eq_getElem hl, ?_⟩
    rw [List.find?_eq_some_iff_getElem]
    exact ⟨hp, i, hl, rfl, fun j hj => by simpa using hno j hj⟩
def zEvt : Evt := ⟨0, 0, 0, 0, 0, 0, 0, 0, 0, 0⟩
def grantT (o : Option Evt) : AV := match o with
  | some e => .tup [(true, e.c), (false, [.bool true])]
  | none => .tup [(true, zEvt.c), (false, [.bool false])]

theorem c_granted (xs : List Evt) (n : Nat) (full : Bool) (hn : n ≤ xs.length) (hb : n < 1152921504606846976) (right : Int) : Ct0 envB 146 [slA 0 0 n full 10, .one (.int .i64 right)] [⟨0, false, none, .raw (arr Evt.c xs)⟩] 1 (grantT ((xs.take n).find? (isGrant right))) := by
  refine Ct.of zB (fn := Tryz.f146) (by kernel_rfl) (by kernel_rfl) rfl rfl ?_
  have c := c_idxG xs n full hn hb right
  rcases idxI_cases (isGrant right) (xs.take n) with ⟨h1, h2⟩ | ⟨i, a, h1, h2, h3⟩
  · rw [h1] at c
    rw [h2]
    refine Rn.call0 zB 1000 rfl (c) [some 0, some 1] rfl rfl (by (repeat' first | exact trivial | exact rfl | exact Or.inl (And.intro rfl rfl) | exact wsucc _ (by omega) | refine And.intro ?_ ?_)) (by (repeat' first | exact trivial | exact rfl | exact (by decide) | exact Or.inl (And.intro rfl rfl) | refine And.intro ?_ ?_ | refine Exists.intro _ (Exists.intro _ (And.intro rfl (And.intro (by decide) ?_))))) rfl rfl rfl rfl rfl ?_
    refine Rn.split zB 1000 rfl (fun h => ?_) (fun h => ?_)
    · exact Rn.fin0 zB 1000 rfl rfl rfl rfl rfl
    · cases h
  · rw [h1] at c
    rw [h3]
    have hin : i < n := by
      rcases Nat.lt_or_ge i n with h | h
      · exact h
      · rw [List.getElem?_take_eq_none h] at h2; cases h2
    rw [List.getElem?_take_of_lt hin] at h2
    refine Rn.call0 zB 1000 rfl (c) [some 0, some 1] rfl rfl (by (repeat' first | exact trivial | exact rfl | exact Or.inl (And.intro rfl rfl) | exact wsucc _ (by omega) | refine And.intro ?_ ?_)) (by (repeat' first | exact trivial | exact rfl | exact (by decide) | exact Or.inl (And.intro rfl rfl) | refine And.intro ?_ ?_ | refine Exists.intro _ (Exists.intro _ (And.intro rfl (And.intro (by decide) ?_))))) rfl rfl rfl rfl rfl ?_
    refine Rn.split zB 1000 rfl (fun h => ?_) (fun h => ?_)
    · simp at h; omega
    · refine Rn.ask zB 1000 rfl ⟨by omega, by omega⟩ ?_
      refine Rn.loadR zB 1000 rfl (LoadR.elt eEvt h2 (by simp)) ?_
      exact Rn.fin0 zB 1000 rfl rfl rfl rfl rfl

end Go.AM
