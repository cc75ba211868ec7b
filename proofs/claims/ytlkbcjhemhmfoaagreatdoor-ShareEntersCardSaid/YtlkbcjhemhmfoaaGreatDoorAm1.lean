/- The blocks of the machine and the memory of a run of the model: how they hang together, and what stays. No program here. -/
import Derived.Test.YtlkbcjhemhmfoaaGreatDoorAm0
import Derived.WalkKit
set_option linter.unusedSimpArgs false
namespace Go.AM
open Go

/-! ### Blocks by their numbers -/
theorem Tr.get_nil {α : Type} (n : Nat) : (Tr.nil : Tr α).get n = none := rfl
theorem Tr.get_zero {α : Type} (v : Option α) (l r : Tr α) : (Tr.node v l r).get 0 = v := rfl
theorem Tr.get_succ {α : Type} (v : Option α) (l r : Tr α) (m : Nat) : (Tr.node v l r).get (m + 1) = bif Nat.beq (Nat.mod m 2) 0 then l.get (Nat.div m 2) else r.get (Nat.div m 2) := by
  have : (Tr.node v l r).get (m + 1) = Bool.rec (motive := fun _ => Option α) (r.get (Nat.div m 2)) (l.get (Nat.div m 2)) (Nat.beq (Nat.mod m 2) 0) := rfl
  rw [this]; cases Nat.beq (Nat.mod m 2) 0 <;> rfl
theorem Tr.ins_nil0 {α : Type} (f : Nat) (x : Option α) : Tr.insF (f + 1) .nil 0 x = .node x .nil .nil := rfl
theorem Tr.ins_node0 {α : Type} (f : Nat) (v : Option α) (l r : Tr α) (x : Option α) : Tr.insF (f + 1) (.node v l r) 0 x = .node x l r := rfl
theorem Tr.ins_nilS {α : Type} (f n : Nat) (x : Option α) : Tr.insF (f + 1) .nil (n + 1) x = bif Nat.beq (Nat.mod n 2) 0 then .node none (Tr.insF f .nil (Nat.div n 2) x) .nil else .node none .nil (Tr.insF f .nil (Nat.div n 2) x) := by
  have : Tr.insF (f + 1) .nil (n + 1) x = Bool.rec (motive := fun _ => Tr α) (.node none .nil (Tr.insF f .nil (Nat.div n 2) x)) (.node none (Tr.insF f .nil (Nat.div n 2) x) .nil) (Nat.beq (Nat.mod n 2) 0) := rfl
  rw [this]; cases Nat.beq (Nat.mod n 2) 0 <;> rfl
theorem Tr.ins_nodeS {α : Type} (f n : Nat) (v : Option α) (l r : Tr α) (x : Option α) : Tr.insF (f + 1) (.node v l r) (n + 1) x = bif Nat.beq (Nat.mod n 2) 0 then .node v (Tr.insF f l (Nat.div n 2) x) r else .node v l (Tr.insF f r (Nat.div n 2) x) := by
  have : Tr.insF (f + 1) (.node v l r) (n + 1) x = Bool.rec (motive := fun _ => Tr α) (.node v l (Tr.insF f r (Nat.div n 2) x)) (.node v (Tr.insF f l (Nat.div n 2) x) r) (Nat.beq (Nat.mod n 2) 0) := rfl
  rw [this]; cases Nat.beq (Nat.mod n 2) 0 <;> rfl
theorem Tr.get_insF {α : Type} (x : Option α) : ∀ (f : Nat) (t : Tr α) (n m : Nat), n < f → (Tr.insF f t n x).get m = if m = n then x else t.get m
  | 0, _, _, _, h => by omega
  | f + 1, t, n, m, h => by
    have hm2 : ∀ k, Nat.mod k 2 = k % 2 := fun _ => rfl
    have hd2 : ∀ k, Nat.div k 2 = k / 2 := fun _ => rfl
    have hb : ∀ k, Nat.beq (k % 2) 0 = decide (k % 2 = 0) := fun k => by
      by_cases h : k % 2 = 0
      · simp [h]
      · have h1 : k % 2 = 1 := by omega
        rw [h1]; rfl
    have ih := fun t' n' m' (h : n' < f) => Tr.get_insF x f t' n' m' h
    cases t with
    | nil =>
      cases n with
      | zero =>
        cases m with
        | zero => simp [Tr.ins_nil0, Tr.ins_node0, Tr.get_zero, Tr.get_succ, Tr.get_nil]
        | succ m => simp [Tr.ins_nil0, Tr.ins_node0, Tr.get_zero, Tr.get_succ, Tr.get_nil]
      | succ n =>
        simp only [Tr.ins_nilS, Tr.ins_nodeS, hm2, hd2, hb]
        by_cases h1 : n % 2 = 0
        · simp only [h1, decide_true, cond_true]
          cases m with
          | zero => simp [Tr.get_zero, Tr.get_nil]
          | succ m =>
            simp only [Tr.get_succ, hm2, hd2, hb]
            by_cases h2 : m % 2 = 0
            · simp only [h2, decide_true, cond_true]
              rw [ih _ _ _ (by omega)]
              by_cases e : m = n
              · subst e; simp
              · rw [if_neg (by omega), if_neg (by omega)]; simp [Tr.get_zero, Tr.get_nil]
            · simp only [h2, decide_false, cond_false]
              rw [if_neg (by omega)]; rfl
        · simp only [h1, decide_false, cond_false]
          cases m with
          | zero => simp [Tr.get_zero, Tr.get_nil]
          | succ m =>
            simp only [Tr.get_succ, hm2, hd2, hb]
            by_cases h2 : m % 2 = 0
            · simp only [h2, decide_true, cond_true]
              rw [if_neg (by omega)]; rfl
            · simp only [h2, decide_false, cond_false]
              rw [ih _ _ _ (by omega)]
              by_cases e : m = n
              · subst e; simp
              · rw [if_neg (by omega), if_neg (by omega)]; simp [Tr.get_zero, Tr.get_nil]
    | node v l r =>
      cases n with
      | zero =>
        cases m with
        | zero => simp [Tr.ins_nil0, Tr.ins_node0, Tr.get_zero, Tr.get_succ, Tr.get_nil]
        | succ m => simp [Tr.ins_nil0, Tr.ins_node0, Tr.get_zero, Tr.get_succ, Tr.get_nil]
      | succ n =>
        simp only [Tr.ins_nilS, Tr.ins_nodeS, hm2, hd2, hb]
        by_cases h1 : n % 2 = 0
        · simp only [h1, decide_true, cond_true]
          cases m with
          | zero => simp [Tr.get_zero, Tr.get_nil]
          | succ m =>
            simp only [Tr.get_succ, hm2, hd2, hb]
            by_cases h2 : m % 2 = 0
            · simp only [h2, decide_true, cond_true]
              rw [ih _ _ _ (by omega)]
              by_cases e : m = n
              · subst e; simp
              · rw [if_neg (by omega), if_neg (by omega)]
            · simp only [h2, decide_false, cond_false]
              rw [if_neg (by omega)]
        · simp only [h1, decide_false, cond_false]
          cases m with
          | zero => simp [Tr.get_zero, Tr.get_nil]
          | succ m =>
            simp only [Tr.get_succ, hm2, hd2, hb]
            by_cases h2 : m % 2 = 0
            · simp only [h2, decide_true, cond_true]
              rw [if_neg (by omega)]
            · simp only [h2, decide_false, cond_false]
              rw [ih _ _ _ (by omega)]
              by_cases e : m = n
              · subst e; simp
              · rw [if_neg (by omega), if_neg (by omega)]
theorem Tr.get_ins {α : Type} (t : Tr α) (n m : Nat) (x : Option α) : (t.ins n x).get m = if m = n then x else t.get m := Tr.get_insF x _ t n m (by omega)

theorem H.get_put (h : H) (i j : Nat) (l : List Sc) : (h.put i l).get j = if j = i then some l else h.get j := Tr.get_ins ..
theorem H.get_kill (h : H) (i j : Nat) : (h.kill i).get j = if j = i then none else h.get j := Tr.get_ins ..
theorem H.put_nx (h : H) (i : Nat) (l : List Sc) : (h.put i l).nx = h.nx := rfl
theorem H.put_ro (h : H) (i : Nat) (l : List Sc) : (h.put i l).ro = h.ro := rfl
theorem H.kill_nx (h : H) (i : Nat) : (h.kill i).nx = h.nx := rfl
theorem H.kill_ro (h : H) (i : Nat) : (h.kill i).ro = h.ro := rfl

theorem Fr.get_set (fr : Fr) (n m : Nat) (v : AV) : (Fr.set fr n v).get m = if m = n then v else Fr.get fr m := by
  unfold Fr.get Fr.set
  rw [Tr.get_ins]
  by_cases h : m = n <;> simp [h]

theorem Fr.get_nil (n : Nat) : Fr.get .nil n = undefA := rfl

theorem Fr.get_of : ∀ (l : List AV) (i : Nat) (fr : Fr) (n : Nat), (Fr.of i l fr).get n = if i ≤ n ∧ n < i + l.length then l.getD (n - i) undefA else Fr.get fr n
  | [], i, fr, n => by
    rw [if_neg (by simp)]; rfl
  | x :: l, i, fr, n => by
    rw [Fr.of, Fr.get_of l (i + 1), Fr.get_set]
    by_cases h : n = i
    · subst h
      rw [if_neg (by omega), if_pos rfl, if_pos (by simp)]
      simp
    · by_cases h2 : i + 1 ≤ n ∧ n < i + 1 + l.length
      · rw [if_pos h2, if_pos (by simp; omega)]
        obtain ⟨k, hk⟩ : ∃ k, n - i = k + 1 := ⟨n - i - 1, by omega⟩
        rw [hk, show n - (i + 1) = k by omega]
        simp
      · rw [if_neg h2, if_neg h, if_neg (by simp; omega)]

/-! ### Values -/
/-- Where a block lies: its block in memory, where in it, and how many cells from there on are its own. -/
abbrev Rho := Nat → Option (Nat × Nat × Nat)

def LR {α β : Type} (R : α → β → Prop) : List α → List β → Prop
  | [], [] => True
  | x :: xs, y :: ys => R x y ∧ LR R xs ys
  | _, _ => False

theorem LR.length {α β : Type} {R : α → β → Prop} : ∀ {xs : List α} {ys : List β}, LR R xs ys → xs.length = ys.length
  | [], [], _ => rfl
  | _ :: _, _ :: _, h => by simp [LR.length h.2]
  | [], _ :: _, h => h.elim
  | _ :: _, [], h => h.elim
theorem LR.get {α β : Type} {R : α → β → Prop} : ∀ {xs : List α} {ys : List β} {j : Nat} {x : α}, LR R xs ys → xs[j]? = some x → ∃ y, ys[j]? = some y ∧ R x y
  | x :: _, y :: _, 0, _, h, e => by simp at e; subst e; exact ⟨y, rfl, h.1⟩
  | _ :: _, _ :: _, j + 1, _, h, e => by simp at e; simpa using LR.get h.2 e
  | [], _, _, _, _, e => by simp at e
  | _ :: _, [], _, _, h, _ => h.elim
theorem LR.mono {α β : Type} {R R' : α → β → Prop} (hr : ∀ x y, R x y → R' x y) : ∀ {xs : List α} {ys : List β}, LR R xs ys → LR R' xs ys
  | [], [], _ => trivial
  | _ :: _, _ :: _, h => ⟨hr _ _ h.1, LR.mono hr h.2⟩
  | [], _ :: _, h => h.elim
  | _ :: _, [], h => h.elim
theorem LR.mk {α β : Type} {R : α → β → Prop} : ∀ {xs : List α} {ys : List β}, xs.length = ys.length → (∀ (j : Nat) x y, xs[j]? = some x → ys[j]? = some y → R x y) → LR R xs ys
  | [], [], _, _ => trivial
  | x :: xs, y :: ys, hl, h => ⟨h 0 x y rfl rfl, LR.mk (by simpa using hl) fun j x y hx hy => h (j + 1) x y (by simpa using hx) (by simpa using hy)⟩
  | [], _ :: _, hl, _ => by simp at hl
  | _ :: _, [], hl, _ => by simp at hl
theorem LR.get2 {α β : Type} {R : α → β → Prop} {xs : List α} {ys : List β} {j : Nat} {x : α} {y : β} (h : LR R xs ys) (hx : xs[j]? = some x) (hy : ys[j]? = some y) : R x y := by
  obtain ⟨y', hy', hr⟩ := h.get hx
  rw [hy] at hy'
  injection hy' with e
  subst e
  exact hr
theorem LR.append {α β : Type} {R : α → β → Prop} : ∀ {xs xs' : List α} {ys ys' : List β}, LR R xs ys → LR R xs' ys' → LR R (xs ++ xs') (ys ++ ys')
  | [], _, [], _, _, h' => h'
  | _ :: _, _, _ :: _, _, h, h' => ⟨h.1, LR.append h.2 h'⟩
  | [], _, _ :: _, _, h, _ => h.elim
  | _ :: _, _, [], _, h, _ => h.elim
theorem LR.take {α β : Type} {R : α → β → Prop} : ∀ {xs : List α} {ys : List β} (n : Nat), LR R xs ys → LR R (xs.take n) (ys.take n)
  | [], [], _, _ => by simp [LR]
  | _ :: _, _ :: _, 0, _ => by simp [LR]
  | _ :: _, _ :: _, n + 1, h => ⟨h.1, LR.take n h.2⟩
  | [], _ :: _, _, h => h.elim
  | _ :: _, [], _, h => h.elim
theorem LR.drop {α β : Type} {R : α → β → Prop} : ∀ {xs : List α} {ys : List β} (n : Nat), LR R xs ys → LR R (xs.drop n) (ys.drop n)
  | [], [], _, _ => by simp [LR]
  | _ :: _, _ :: _, 0, h => h
  | _ :: _, _ :: _, n + 1, h => LR.drop n h.2
  | [], _ :: _, _, h => h.elim
  | _ :: _, [], _, h => h.elim
theorem LR.map {α β γ δ : Type} {R : α → β → Prop} {S : γ → δ → Prop} {f : α → γ} {g : β → δ} (hr : ∀ x y, R x y → S (f x) (g y)) : ∀ {xs : List α} {ys : List β}, LR R xs ys → LR S (xs.map f) (ys.map g)
  | [], [], _ => trivial
  | _ :: _, _ :: _, h => ⟨hr _ _ h.1, LR.map hr h.2⟩
  | [], _ :: _, h => h.elim
  | _ :: _, [], h => h.elim
theorem LR.self {α β γ : Type} {S : β → γ → Prop} {f : α → β} {g : α → γ} (h : ∀ x, S (f x) (g x)) : ∀ l : List α, LR S (l.map f) (l.map g)
  | [] => trivial
  | x :: l => ⟨h x, LR.self h l⟩

def ptrR (ρ : Rho) (a : Nat × Nat) (v : Value) : Prop := ∃ b base room, ρ a.1 = some (b, base, room) ∧ v = .pointer (some ⟨b, base + a.2, none⟩)

def scR (ρ : Rho) : Sc → Value → Prop
  | .bool b, v => v = .bool b
  | .int k n, v => v = .int k n
  | .str s, v => v = .string s
  | .ptr none, v => v = .pointer none
  | .ptr (some a), v => ptrR ρ a v
  | .sl none n _ _, v => n = 0 ∧ v = .slice none 0 0
  | .sl (some (i, o)) n full sz, v => ∃ b base room c a, ρ i = some (b, base, room) ∧ v = .slice (some a) n c ∧ (a = ⟨b, base + o, none⟩ ∨ c = 0) ∧ n ≤ c ∧ (full = true → c = n) ∧ o + c * sz ≤ room
  | .fn f caps, v => ∃ cs, v = .func (.func f) #[] cs ∧ LR (ptrR ρ) caps cs.toList
  | .nilFn, v => v = .nilFunc
  | .nilIface, v => v = .nilIface
  | .iface, v => ∃ t x, v = .iface t x

def elR (ρ : Rho) : Bool × List Sc → Value → Prop
  | (true, l), v => ∃ cs, v = .agg cs ∧ LR (scR ρ) l cs.toList
  | (false, [s]), v => scR ρ s v
  | _, _ => False

def avR (ρ : Rho) : AV → Value → Prop
  | .one s, v => scR ρ s v
  | .agg l, v => ∃ cs, v = .agg cs ∧ LR (scR ρ) l cs.toList
  | .tup l, v => ∃ vs, v = .tuple vs ∧ LR (elR ρ) l vs.toList
  | .top, _ => True

def Rho.le (ρ ρ' : Rho) : Prop := ∀ i p, ρ i = some p → ρ' i = some p
theorem Rho.le_refl (ρ : Rho) : ρ.le ρ := fun _ _ h => h
theorem Rho.le.trans {a b c : Rho} (h : a.le b) (h' : b.le c) : a.le c := fun i p e => h' i p (h i p e)

theorem ptrR.mono {ρ ρ' : Rho} (h : ρ.le ρ') {a : Nat × Nat} {v : Value} : ptrR ρ a v → ptrR ρ' a v := fun ⟨b, base, room, e, hv⟩ => ⟨b, base, room, h _ _ e, hv⟩
theorem scR.mono {ρ ρ' : Rho} (h : ρ.le ρ') {s : Sc} {v : Value} (hs : scR ρ s v) : scR ρ' s v := by
  cases s with
  | ptr a => cases a with
    | none => exact hs
    | some a => exact ptrR.mono h hs
  | sl a n full sz =>
    cases a with
    | none => exact hs
    | some a =>
      obtain ⟨b, base, room, c, ad, e, hv⟩ := hs
      exact ⟨b, base, room, c, ad, h _ _ e, hv⟩
  | fn f caps =>
    obtain ⟨cs, e, hl⟩ := hs
    exact ⟨cs, e, hl.mono fun _ _ => ptrR.mono h⟩
  | _ => exact hs
theorem elR.mono {ρ ρ' : Rho} (h : ρ.le ρ') {s : Bool × List Sc} {v : Value} (hs : elR ρ s v) : elR ρ' s v := by
  match s, hs with
  | (true, l), ⟨cs, e, hl⟩ => exact ⟨cs, e, hl.mono fun _ _ => scR.mono h⟩
  | (false, [s]), hs => exact scR.mono h (s := s) hs
theorem avR.mono {ρ ρ' : Rho} (h : ρ.le ρ') {s : AV} {v : Value} (hs : avR ρ s v) : avR ρ' s v := by
  match s, hs with
  | .one s, hs => exact scR.mono h (s := s) hs
  | .agg l, ⟨cs, e, hl⟩ => exact ⟨cs, e, hl.mono fun _ _ => scR.mono h⟩
  | .tup l, ⟨vs, e, hl⟩ => exact ⟨vs, e, hl.mono fun _ _ => elR.mono h⟩
  | .top, _ => trivial

theorem scR.one {ρ : Rho} {s : Sc} {v : Value} (h : scR ρ s v) : v.oneCell' = true := by
  cases s with
  | ptr a => cases a with
    | none => subst h; rfl
    | some a => obtain ⟨b, base, room, _, rfl⟩ := h; rfl
  | sl a n full sz =>
    cases a with
    | none => obtain ⟨_, rfl⟩ := h; rfl
    | some a => obtain ⟨b, base, room, c, ad, e, rfl, _⟩ := h; rfl
  | fn f caps => obtain ⟨cs, rfl, _⟩ := h; rfl
  | iface => obtain ⟨t, x, rfl⟩ := h; rfl
  | _ => subst h; rfl
theorem scR.cells {ρ : Rho} {s : Sc} {v : Value} (h : scR ρ s v) : v.cells = #[v] := by
  have := h.one
  cases v <;> simp_all [Value.cells, Value.oneCell']

/-- The cells of a value. -/
theorem cells_rel {ρ : Rho} {x : AV} {l : List Sc} {v : Value} (hx : x.cells = some l) (h : avR ρ x v) : LR (scR ρ) l v.cells.toList := by
  cases x with
  | one s => simp [AV.cells] at hx; subst hx; rw [scR.cells (s := s) h]; exact ⟨h, trivial⟩
  | agg l' =>
    obtain ⟨cs, e, hl⟩ := h
    subst e
    simp [AV.cells] at hx; subst hx; exact hl
  | tup l' => simp [AV.cells] at hx
  | top => simp [AV.cells] at hx
theorem mkAV_rel {ρ : Rho} {agg : Bool} {l : List Sc} {x : AV} (hx : mkAV agg l = some x) {cs : List Value} (h : LR (scR ρ) l cs) :
    (agg = true → avR ρ x (.agg cs.toArray)) ∧ (agg = false → ∃ v, cs = [v] ∧ avR ρ x v) := by
  unfold mkAV at hx
  cases agg with
  | true => simp at hx; subst hx; exact ⟨fun _ => ⟨cs.toArray, rfl, by simpa using h⟩, fun h => by simp at h⟩
  | false =>
    refine ⟨fun h => by simp at h, fun _ => ?_⟩
    simp only [Bool.false_eq_true, if_false] at hx
    match l, cs, h, hx with
    | [s], [v], h, hx => simp at hx; subst hx; exact ⟨v, rfl, h.1⟩
    | [s], _ :: _ :: _, h, _ => exact (h.2).elim

theorem constSc_rel (ρ : Rho) {v : Value} {s : Sc} (h : constSc v = some s) : scR ρ s v := by
  unfold constSc at h
  split at h <;> simp at h <;> subst h <;> simp [scR]
theorem allSome_map {α β : Type} {f : α → Option β} : ∀ {l : List α} {r : List β}, allSome (l.map f) = some r → r.length = l.length ∧ ∀ (j : Nat) x, l[j]? = some x → ∃ y, r[j]? = some y ∧ f x = some y
  | [], r, h => by simp [allSome] at h; subst h; simp
  | a :: l, r, h => by
    simp only [List.map_cons, allSome] at h
    cases ha : f a with
    | none => simp [ha] at h
    | some b =>
      simp only [ha, Option.bind_some] at h
      cases hr : allSome (l.map f) with
      | none => simp [hr] at h
      | some r' =>
        simp only [hr, Option.map_some, Option.some.injEq] at h
        subst h
        obtain ⟨h1, h2⟩ := allSome_map hr
        refine ⟨by simp [h1], fun j x hj => ?_⟩
        cases j with
        | zero => simp at hj; subst hj; exact ⟨b, rfl, ha⟩
        | succ j => simpa using h2 j x (by simpa using hj)
theorem constList_rel (ρ : Rho) {cs : List Value} {l : List Sc} (h : allSome (cs.map constSc) = some l) : LR (scR ρ) l cs := by
  obtain ⟨h1, h2⟩ := allSome_map h
  refine LR.mk h1 fun j s v hs hv => ?_
  obtain ⟨s', hs', hc⟩ := h2 j v hv
  rw [hs] at hs'
  injection hs' with e
  subst e
  exact constSc_rel ρ hc
theorem constAV_one (ρ : Rho) {v : Value} {x : AV} (h : (match constSc v with | some s => AV.one s | none => .top) = x) : avR ρ x v := by
  subst h
  cases hs : constSc v with
  | none => trivial
  | some s => exact constSc_rel ρ hs
theorem constAV_rel (ρ : Rho) (v : Value) : avR ρ (constAV v) v := by
  cases v with
  | agg cs =>
    show avR ρ (match allSome (cs.toList.map constSc) with | some l => .agg l | none => .top) _
    cases h : allSome (cs.toList.map constSc) with
    | none => trivial
    | some l => exact ⟨cs, rfl, constList_rel ρ h⟩
  | _ => exact constAV_one ρ rfl
theorem constCells_rel (ρ : Rho) {v : Value} {l : List Sc} (h : constCells v = some l) : LR (scR ρ) l v.cells.toList := by
  unfold constCells at h
  split at h
  · exact constList_rel ρ h
  · simp only [Option.map_eq_some_iff] at h
    obtain ⟨s, hs, rfl⟩ := h
    have := constSc_rel ρ hs
    rw [scR.cells this]
    exact ⟨this, trivial⟩

/-! ### Blocks and memory -/
def Lies (ρ : Rho) (own : Prop) (w : World) (l : List Sc) (b base room : Nat) : Prop :=
  ∃ cs t fz, w.heap[b]? = some (.cells cs t fz) ∧ l.length ≤ room ∧ base + room ≤ cs.size ∧ (∀ (j : Nat) x, l[j]? = some x → ∃ v, cs[base + j]? = some v ∧ scR ρ x v) ∧ (own → fz = (0, 0))

abbrev G := Nat → Option (List Sc)

structure Rel (ρ : Rho) (g : G) (ro : Nat) (w : World) : Prop where
  blk : ∀ i l, g i = some l → ∃ b base room, ρ i = some (b, base, room) ∧ Lies ρ (ro ≤ i) w l b base room
  apart : ∀ i j l l', g i = some l → g j = some l' → i ≠ j → ro ≤ j → ∀ p q, ρ i = some p → ρ j = some q → p.1 ≠ q.1

/-- The blocks in memory that may be written. -/
def Wr (ρ : Rho) (g : G) (ro : Nat) (b : Nat) : Prop := ∃ i l p, ro ≤ i ∧ g i = some l ∧ ρ i = some p ∧ p.1 = b

structure Stp (ρ ρ' : Rho) (g g' : G) (ro : Nat) (w w' : World) : Prop where
  ext : ρ.le ρ'
  os : w'.os = w.os
  tape : w'.tape = w.tape
  output : w'.output = w.output
  size : w.heap.size ≤ w'.heap.size
  keep : ∀ b, b < w.heap.size → ¬ Wr ρ g ro b → w'.heap[b]? = w.heap[b]?
  wr : ∀ b, b < w.heap.size → Wr ρ' g' ro b → Wr ρ g ro b
  fz : ∀ a, w'.frozen? a = w.frozen? a

theorem Stp.refl (ρ : Rho) (g : G) (ro : Nat) (w : World) : Stp ρ ρ g g ro w w := ⟨Rho.le_refl ρ, rfl, rfl, rfl, Nat.le_refl _, fun _ _ _ => rfl, fun _ _ h => h, fun _ => rfl⟩
theorem Stp.trans {ρ ρ' ρ'' : Rho} {g g' g'' : G} {ro : Nat} {w w' w'' : World} (h : Stp ρ ρ' g g' ro w w') (h' : Stp ρ' ρ'' g' g'' ro w' w'') : Stp ρ ρ'' g g'' ro w w'' where
  ext := h.ext.trans h'.ext
  os := h'.os.trans h.os
  tape := h'.tape.trans h.tape
  output := h'.output.trans h.output
  size := Nat.le_trans h.size h'.size
  keep b hb hn := by
    rw [h'.keep b (Nat.lt_of_lt_of_le hb h.size) fun hw => hn (h.wr b hb hw)]
    exact h.keep b hb hn
  wr b hb hw := h.wr b hb (h'.wr b (Nat.lt_of_lt_of_le hb h.size) hw)
  fz a := (h'.fz a).trans (h.fz a)

theorem frozen_alloc (w : World) (c : Array Value) (t : TypeId) (a : Addr) : (w.alloc (.cells c t)).frozen? a = w.frozen? a := by
  unfold World.frozen? World.alloc
  rw [Array.getElem?_push]
  by_cases h : a.block = w.heap.size
  · rw [if_pos h, h, Array.getElem?_eq_none (Nat.le_refl _)]
    simp
  · rw [if_neg h]

theorem Rel.lt {ρ : Rho} {g : G} {ro : Nat} {w : World} (h : Rel ρ g ro w) {i : Nat} {l : List Sc} (hg : g i = some l) {p : Nat × Nat × Nat} (hp : ρ i = some p) : p.1 < w.heap.size := by
  obtain ⟨b, base, room, e, cs, t, fz, hb, _⟩ := h.blk i l hg
  rw [hp] at e
  injection e with e
  subst e
  exact (Array.getElem?_eq_some_iff.1 hb).1

theorem Lies.world {ρ : Rho} {own : Prop} {w w' : World} {l : List Sc} {b base room : Nat} (h : Lies ρ own w l b base room) (e : w'.heap[b]? = w.heap[b]?) : Lies ρ own w' l b base room := by
  obtain ⟨cs, t, fz, hb, rest⟩ := h
  exact ⟨cs, t, fz, e.trans hb, rest⟩
theorem Lies.rho {ρ ρ' : Rho} (hr : ρ.le ρ') {own : Prop} {w : World} {l : List Sc} {b base room : Nat} (h : Lies ρ own w l b base room) : Lies ρ' own w l b base room := by
  obtain ⟨cs, t, fz, hb, h1, h2, h3, h4⟩ := h
  exact ⟨cs, t, fz, hb, h1, h2, fun j x hx => let ⟨v, hv, hs⟩ := h3 j x hx; ⟨v, hv, hs.mono hr⟩, h4⟩
theorem Lies.own {ρ : Rho} {own own' : Prop} (ho : own' → own) {w : World} {l : List Sc} {b base room : Nat} (h : Lies ρ own w l b base room) : Lies ρ own' w l b base room := by
  obtain ⟨cs, t, fz, hb, h1, h2, h3, h4⟩ := h
  exact ⟨cs, t, fz, hb, h1, h2, h3, fun h => h4 (ho h)⟩

/-- Fewer blocks. -/
theorem Rel.sub {ρ : Rho} {g g' : G} {ro ro' : Nat} {w : World} (h : Rel ρ g ro w) (hs : ∀ i l, g' i = some l → g i = some l) (hro : ∀ i l, g' i = some l → ro' ≤ i → ro ≤ i) : Rel ρ g' ro' w where
  blk i l hg := by
    obtain ⟨b, base, room, e, hl⟩ := h.blk i l (hs i l hg)
    exact ⟨b, base, room, e, hl.own (hro i l hg)⟩
  apart i j l l' hi hj hne hr := h.apart i j l l' (hs _ _ hi) (hs _ _ hj) hne (hro j l' hj hr)

/-- A world in which no block that is told of has turned. -/
theorem Rel.world {ρ : Rho} {g : G} {ro : Nat} {w w' : World} (h : Rel ρ g ro w) (hw : ∀ b, b < w.heap.size → w'.heap[b]? = w.heap[b]?) : Rel ρ g ro w' where
  blk i l hg := by
    obtain ⟨b, base, room, e, hl⟩ := h.blk i l hg
    exact ⟨b, base, room, e, hl.world (hw b (h.lt hg e))⟩
  apart := h.apart

/-- A new block. -/
theorem Rel.new {ρ : Rho} {g : G} {ro : Nat} {w : World} (h : Rel ρ g ro w) {id : Nat} (hid : ρ id = none) {l : List Sc} {cs : Array Value} {t : TypeId} (hl : LR (scR ρ) l (cs.toList.take l.length)) (hlen : l.length ≤ cs.size) :
    let ρ' : Rho := fun i => if i = id then some (w.heap.size, 0, cs.size) else ρ i
    let g' : G := fun i => if i = id then some l else g i
    Rel ρ' g' ro (w.alloc (.cells cs t)) ∧ Stp ρ ρ' g g' ro w (w.alloc (.cells cs t)) ∧ ρ' id = some (w.heap.size, 0, cs.size) := by
  intro ρ' g'
  have hle : ρ.le ρ' := fun i p e => by
    show (if i = id then _ else _) = _
    rw [if_neg (fun hh => by rw [hh, hid] at e; cases e)]
    exact e
  have hold : ∀ b, b < w.heap.size → (w.alloc (.cells cs t)).heap[b]? = w.heap[b]? := fun b hb => by
    show (w.heap.push _)[b]? = _
    rw [Array.getElem?_push, if_neg (by omega)]
  have hnew : (w.alloc (.cells cs t)).heap[w.heap.size]? = some (.cells cs t) := by
    show (w.heap.push _)[w.heap.size]? = _
    simp
  have gid : g id = none := by
    cases hg : g id with
    | none => rfl
    | some l =>
      obtain ⟨b, base, room, e, _⟩ := h.blk id l hg
      rw [hid] at e; cases e
  refine ⟨⟨fun i l' hg => ?_, fun i j l1 l2 hi hj hne hr p q hp hq => ?_⟩, ⟨hle, rfl, rfl, rfl, by simp, fun b hb _ => hold b hb, fun b hb hw => ?_, fun a => frozen_alloc ..⟩, by simp [ρ']⟩
  · by_cases hi : i = id
    · subst hi
      have hg' : l = l' := by simpa [g'] using hg
      subst hg'
      refine ⟨w.heap.size, 0, cs.size, by simp [ρ'], cs, t, (0, 0), hnew, hlen, by omega, fun j x hx => ?_, fun _ => rfl⟩
      obtain ⟨v, hv, hr⟩ := hl.get hx
      have hj : j < l.length := (List.getElem?_eq_some_iff.1 hx).1
      rw [List.getElem?_take_of_lt hj] at hv
      exact ⟨v, by simpa using hv, hr.mono hle⟩
    · have hg' : g i = some l' := by simpa [g', hi] using hg
      obtain ⟨b, base, room, e, hl'⟩ := h.blk i l' hg'
      exact ⟨b, base, room, hle _ _ e, (hl'.world (hold b (h.lt hg' e))).rho hle⟩
  · by_cases hi' : i = id <;> by_cases hj' : j = id
    · exact absurd (hi'.trans hj'.symm) hne
    · have hq' : ρ j = some q := by simpa [ρ', hj'] using hq
      have hj2 : g j = some l2 := by simpa [g', hj'] using hj
      have := h.lt hj2 hq'
      have hp' : p = (w.heap.size, 0, cs.size) := by simpa [ρ', hi'] using hp.symm
      subst hp'
      show w.heap.size ≠ q.1
      omega
    · have hp' : ρ i = some p := by simpa [ρ', hi'] using hp
      have hi2 : g i = some l1 := by simpa [g', hi'] using hi
      have := h.lt hi2 hp'
      have hq' : q = (w.heap.size, 0, cs.size) := by simpa [ρ', hj'] using hq.symm
      subst hq'
      show p.1 ≠ w.heap.size
      omega
    · exact h.apart i j l1 l2 (by simpa [g', hi'] using hi) (by simpa [g', hj'] using hj) hne hr p q (by simpa [ρ', hi'] using hp) (by simpa [ρ', hj'] using hq)
  · obtain ⟨i, l', p, hr, hg, hp, rfl⟩ := hw
    by_cases hi : i = id
    · have hp' : p = (w.heap.size, 0, cs.size) := by simpa [ρ', hi] using hp.symm
      subst hp'
      exact absurd hb (by show ¬ w.heap.size < _; omega)
    · exact ⟨i, l', p, hr, by simpa [g', hi] using hg, by simpa [ρ', hi] using hp, rfl⟩

end Go.AM
