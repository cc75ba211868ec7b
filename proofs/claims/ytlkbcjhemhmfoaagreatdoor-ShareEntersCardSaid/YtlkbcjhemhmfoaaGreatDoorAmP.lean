/- Walks over lists: what is known of the slots, with blocks by places in a list of what is known of them. No program here. -/
import Derived.Test.YtlkbcjhemhmfoaaGreatDoorAmO
set_option linter.unusedSimpArgs false
set_option linter.unusedVariables false
namespace Go.AM
open Go

/-! ### Which block a place means -/
/-- Of each place: nothing, that it is nil (a slice of no length), or its block. -/
abbrev Sg := Nat → Option (Option Nat)

def RPt (σ : Sg) (a a' : Nat × Nat) : Prop := ∃ b, σ a.1 = some (some b) ∧ a' = (b, a.2)
def RSc (σ : Sg) : Sc → Sc → Prop
  | .ptr (some a), s => ∃ a', s = .ptr (some a') ∧ RPt σ a a'
  | .sl (some (j, o)) n full sz, s => (∃ b, σ j = some (some b) ∧ s = .sl (some (b, o)) n full sz) ∨ (σ j = some none ∧ n = 0 ∧ s = .sl none 0 true 0)
  | .fn f caps, s => ∃ cs, s = .fn f cs ∧ LR (RPt σ) caps cs
  | x, s => s = x
def REl (σ : Sg) (x y : Bool × List Sc) : Prop := y.1 = x.1 ∧ LR (RSc σ) x.2 y.2
def RAV (σ : Sg) : AV → AV → Prop
  | .one s, v => ∃ s', v = .one s' ∧ RSc σ s s'
  | .agg l, v => ∃ l', v = .agg l' ∧ LR (RSc σ) l l'
  | .tup l, v => ∃ l', v = .tup l' ∧ LR (REl σ) l l'
  | .top, _ => True

def Sg.le (σ τ : Sg) : Prop := ∀ j r, σ j = some r → τ j = some r
theorem Sg.le.refl (σ : Sg) : σ.le σ := fun _ _ h => h
theorem Sg.le.trans {a b c : Sg} (h : a.le b) (h' : b.le c) : a.le c := fun j r e => h' j r (h j r e)

theorem RPt.mono {σ τ : Sg} (h : σ.le τ) {a a' : Nat × Nat} : RPt σ a a' → RPt τ a a' := fun ⟨b, e, x⟩ => ⟨b, h _ _ e, x⟩
theorem RSc.mono {σ τ : Sg} (h : σ.le τ) {s s' : Sc} (r : RSc σ s s') : RSc τ s s' := by
  cases s with
  | ptr a => cases a with
    | none => exact r
    | some a => obtain ⟨a', e, x⟩ := r; exact ⟨a', e, x.mono h⟩
  | sl a n full sz => cases a with
    | none => exact r
    | some a =>
      rcases r with ⟨b, e, x⟩ | ⟨e, x⟩
      · exact .inl ⟨b, h _ _ e, x⟩
      · exact .inr ⟨h _ _ e, x⟩
  | fn f caps => obtain ⟨cs, e, x⟩ := r; exact ⟨cs, e, x.mono fun _ _ => RPt.mono h⟩
  | _ => exact r
theorem REl.mono {σ τ : Sg} (h : σ.le τ) {x y : Bool × List Sc} (r : REl σ x y) : REl τ x y := ⟨r.1, r.2.mono fun _ _ => RSc.mono h⟩
theorem RAV.mono {σ τ : Sg} (h : σ.le τ) {v v' : AV} (r : RAV σ v v') : RAV τ v v' := by
  cases v with
  | one s => obtain ⟨s', e, x⟩ := r; exact ⟨s', e, x.mono h⟩
  | agg l => obtain ⟨l', e, x⟩ := r; exact ⟨l', e, x.mono fun _ _ => RSc.mono h⟩
  | tup l => obtain ⟨l', e, x⟩ := r; exact ⟨l', e, x.mono fun _ _ => REl.mono h⟩
  | top => trivial

/-- Values without addresses are the same. -/
theorem RSc.flat {σ : Sg} {s s' : Sc} (hf : flatSc s = true) (r : RSc σ s s') : s' = s := by
  cases s with
  | ptr a => cases a with
    | none => exact r
    | some a => simp [flatSc] at hf
  | sl a n full sz => cases a with
    | none => exact r
    | some a => simp [flatSc] at hf
  | fn f caps => simp [flatSc] at hf
  | _ => exact r
theorem LR.flat {σ : Sg} : ∀ {l l' : List Sc}, allB flatSc l = true → LR (RSc σ) l l' → l' = l
  | [], [], _, _ => rfl
  | s :: l, s' :: l', hf, r => by
    simp only [allB, Bool.and_eq_true] at hf
    rw [RSc.flat hf.1 r.1, LR.flat hf.2 r.2]
  | [], _ :: _, _, r => r.elim
  | _ :: _, [], _, r => r.elim
theorem RSc.of_flat {σ : Sg} {s : Sc} (hf : flatSc s = true) : RSc σ s s := by
  cases s with
  | ptr a => cases a with
    | none => exact rfl
    | some a => simp [flatSc] at hf
  | sl a n full sz => cases a with
    | none => exact rfl
    | some a => simp [flatSc] at hf
  | fn f caps => simp [flatSc] at hf
  | _ => exact rfl
theorem LR.of_flat {σ : Sg} : ∀ {l : List Sc}, allB flatSc l = true → LR (RSc σ) l l
  | [], _ => trivial
  | s :: l, hf => by
    simp only [allB, Bool.and_eq_true] at hf
    exact ⟨RSc.of_flat hf.1, LR.of_flat hf.2⟩
theorem RAV.flat {σ : Sg} {v v' : AV} (hf : v.flat = true) (r : RAV σ v v') : v' = v := by
  cases v with
  | one s => obtain ⟨s', rfl, x⟩ := r; rw [RSc.flat hf x]
  | agg l => obtain ⟨l', rfl, x⟩ := r; rw [LR.flat hf x]
  | tup l =>
    obtain ⟨l', rfl, x⟩ := r
    have : ∀ {l l' : List (Bool × List Sc)}, allB (fun e => allB flatSc e.2) l = true → LR (REl σ) l l' → l' = l := by
      intro l
      induction l with
      | nil => intro l' _ r; cases l' with
        | nil => rfl
        | cons => exact r.elim
      | cons a l ih => intro l' hf r; cases l' with
        | nil => exact r.elim
        | cons a' l' =>
          simp only [allB, Bool.and_eq_true] at hf
          obtain ⟨a1, a2⟩ := a
          obtain ⟨b1, b2⟩ := a'
          obtain ⟨⟨h1, h2⟩, r2⟩ := r
          have h1 : b1 = a1 := h1
          have h2 : b2 = a2 := LR.flat hf.1 h2
          rw [h1, h2, ih hf.2 r2]
    rw [this hf x]
  | top => simp [AV.flat] at hf
theorem RAV.of_flat {σ : Sg} {v : AV} (hf : v.flat = true) : RAV σ v v := by
  cases v with
  | one s => exact ⟨s, rfl, RSc.of_flat hf⟩
  | agg l => exact ⟨l, rfl, LR.of_flat hf⟩
  | tup l =>
    refine ⟨l, rfl, ?_⟩
    have all : ∀ l : List (Bool × List Sc), allB (fun e => allB flatSc e.2) l = true → LR (REl σ) l l := by
      intro l
      induction l with
      | nil => intro _; trivial
      | cons a l ih =>
        intro hf
        simp only [allB, Bool.and_eq_true] at hf
        exact ⟨⟨rfl, LR.of_flat hf.1⟩, ih hf.2⟩
    exact all l hf
  | top => trivial

theorem constSc_flat {v : Value} {s : Sc} (h : constSc v = some s) : flatSc s = true := by
  unfold constSc at h
  split at h <;> simp at h <;> subst h <;> rfl
theorem constList_flat : ∀ {cs : List Value} {l : List Sc}, allSome (cs.map constSc) = some l → allB flatSc l = true
  | [], l, h => by simp [allSome] at h; subst h; rfl
  | v :: cs, l, h => by
    simp only [List.map_cons, allSome, Option.bind_eq_some_iff, Option.map_eq_some_iff] at h
    obtain ⟨s, hs, l', hl, rfl⟩ := h
    simp only [allB, Bool.and_eq_true]
    exact ⟨constSc_flat hs, constList_flat hl⟩
theorem constAV_rel2 (σ : Sg) (v : Value) : RAV σ (constAV v) (constAV v) := by
  have one : ∀ v : Value, RAV σ (match constSc v with | some s => AV.one s | none => .top) (match constSc v with | some s => AV.one s | none => .top) := fun v => by
    cases h : constSc v with
    | none => trivial
    | some s => exact RAV.of_flat (v := .one s) (constSc_flat h)
  unfold constAV
  split
  · rename_i cs
    cases h : allSome (cs.toList.map constSc) with
    | none => trivial
    | some l => exact RAV.of_flat (v := .agg l) (constList_flat h)
  · exact one v

/-! ### Slots -/
abbrev P := List (Nat × AV)
def P.get (p : P) (n : Nat) : AV := match p with
  | [] => .top
  | (m, v) :: p => bif Nat.beq m n then v else P.get p n
noncomputable def P.ev (p : P) : Operand → AV
  | .tmp t => P.get p t
  | .const v => constAV v
  | .func g => .one (.fn g [])
  | .global _ => .top
def Ag (σ : Sg) (f : FF) (p : P) : Prop := ∀ n, RAV σ (P.get p n) (f n)

theorem Ag.ev {σ : Sg} {f : FF} {p : P} (h : Ag σ f p) (x : Operand) : RAV σ (P.ev p x) (FF.ev f x) := by
  cases x with
  | tmp t => exact h t
  | const v => exact constAV_rel2 σ v
  | func g => exact ⟨_, rfl, [], rfl, trivial⟩
  | global g => trivial
theorem Ag.mono {σ τ : Sg} (h : σ.le τ) {f : FF} {p : P} (a : Ag σ f p) : Ag τ f p := fun n => (a n).mono h
theorem Ag.set {σ : Sg} {f : FF} {p : P} (h : Ag σ f p) (d : Nat) {v v' : AV} (hv : RAV σ v v') : Ag σ (f.set d v') ((d, v) :: p) := by
  intro n
  unfold P.get FF.set
  by_cases e : n = d
  · subst e; simpa using hv
  · have h1 : Nat.beq d n = false := by
      cases hb : Nat.beq d n with
      | false => rfl
      | true => exact absurd (Nat.eq_of_beq_eq_true hb).symm e
    have h2 : Nat.beq n d = false := by
      cases hb : Nat.beq n d with
      | false => rfl
      | true => exact absurd (Nat.eq_of_beq_eq_true hb) e
    rw [h1, h2]
    exact h n
theorem Ag.over {σ : Sg} {f : FF} {p : P} (h : Ag σ f p) (d : Nat) {v : AV} (hv : RAV σ v (f d)) : Ag σ f ((d, v) :: p) := by
  intro n
  unfold P.get
  cases hb : Nat.beq d n with
  | true => have := Nat.eq_of_beq_eq_true hb; subst this; exact hv
  | false => exact h n
/-- The slots that a call begins with. -/
def P.args : Nat → List AV → P
  | _, [] => []
  | i, v :: l => (i, v) :: P.args (i + 1) l
theorem P.get_args : ∀ (l : List AV) (i n : Nat), P.get (P.args i l) n = if i ≤ n ∧ n < i + l.length then l.getD (n - i) .top else .top
  | [], i, n => by simp [P.args, P.get]
  | v :: l, i, n => by
    unfold P.args P.get
    cases hb : Nat.beq i n with
    | true => have := Nat.eq_of_beq_eq_true hb; subst this; simp
    | false =>
      have hne : i ≠ n := fun e => by subst e; simp at hb
      rw [cond_false, P.get_args l (i + 1) n]
      by_cases h : i + 1 ≤ n ∧ n < i + 1 + l.length
      · rw [if_pos h, if_pos (by simp; omega)]
        obtain ⟨k, hk⟩ : ∃ k, n - i = k + 1 := ⟨n - i - 1, by omega⟩
        rw [hk, show n - (i + 1) = k by omega]
        simp
      · rw [if_neg h, if_neg (by simp; omega)]
theorem Ag.args {σ : Sg} {l l' : List AV} (h : LR (RAV σ) l l') : Ag σ (FF.of l') (P.args 0 l) := by
  intro n
  rw [P.get_args]
  have hlen := h.length
  by_cases hn : n < l.length
  · rw [if_pos (by omega)]
    unfold FF.of
    obtain ⟨y, hy, hr⟩ := h.get (List.getElem?_eq_getElem hn)
    simp only [List.getD_eq_getElem?_getD, Nat.sub_zero]
    rw [List.getElem?_eq_getElem hn, hy]
    exact hr
  · rw [if_neg (by omega)]; trivial

/-! ### Operations without blocks -/
/-- 'nil ==' of a slice is none of them: a place may mean nil. -/
noncomputable def isP (ev : Operand → AV) : Op → Bool
  | .binOp _ _ x _ _ => match ev x with | .one (.sl (some _) _ _ _) => false | _ => true
  | .move _ | .assign _ | .pick .. | .nilCheck _ | .unOp .. | .convert .. | .makeFunc .. | .fieldAddr .. | .field .. | .index .. | .extract .. | .build .. => true
  | .call { callee := .builtin b, .. } => match b with | .len | .min | .max => true | _ => false
  | _ => false

noncomputable def pop (X : Env) (ev : Operand → AV) (op : Op) : Option AV :=
  bif isP ev op then (match aop X ev hE 0 op with | some (v, _) => some v | none => none) else none

theorem allB_append {α : Type} {p : α → Bool} : ∀ {l l' : List α}, allB p l = true → allB p l' = true → allB p (l ++ l') = true
  | [], _, _, h => h
  | x :: l, _, h, h' => by
    simp only [List.cons_append, allB, Bool.and_eq_true] at h ⊢
    exact ⟨h.1, allB_append h.2 h'⟩

theorem cells_rel2 {σ : Sg} {x y : AV} {l : List Sc} (hx : x.cells = some l) (r : RAV σ x y) : ∃ l', y.cells = some l' ∧ LR (RSc σ) l l' := by
  cases x with
  | one s =>
    obtain ⟨s', rfl, h⟩ := r
    simp only [AV.cells, Option.some.injEq] at hx; subst hx
    exact ⟨[s'], rfl, h, trivial⟩
  | agg l0 =>
    obtain ⟨l', rfl, h⟩ := r
    simp only [AV.cells, Option.some.injEq] at hx; subst hx
    exact ⟨l', rfl, h⟩
  | tup l0 => simp [AV.cells] at hx
  | top => simp [AV.cells] at hx
theorem mkAV_rel2 {σ : Sg} {agg : Bool} {l l' : List Sc} {v : AV} (hv : mkAV agg l = some v) (r : LR (RSc σ) l l') : ∃ v', mkAV agg l' = some v' ∧ RAV σ v v' := by
  unfold mkAV at hv ⊢
  cases agg with
  | true => simp only [if_true, Option.some.injEq] at hv ⊢; subst hv; exact ⟨_, rfl, l', rfl, r⟩
  | false =>
    simp only [Bool.false_eq_true, if_false] at hv ⊢
    match l, l', r, hv with
    | [s], [s'], r, hv => simp only [Option.some.injEq] at hv; subst hv; exact ⟨_, rfl, s', rfl, r.1⟩
    | [s], _ :: _ :: _, r, _ => exact r.2.elim
    | [s], [], r, _ => exact r.elim
    | [], _, _, hv => simp at hv
    | _ :: _ :: _, _, _, hv => simp at hv
theorem elAV_rel2 {σ : Sg} {x y : Bool × List Sc} {v : AV} (hv : elAV x = some v) (r : REl σ x y) : ∃ v', elAV y = some v' ∧ RAV σ v v' := by
  obtain ⟨b, l⟩ := x
  obtain ⟨b', l'⟩ := y
  obtain ⟨h1, h2⟩ := r
  have h1 : b' = b := h1
  have h2 : LR (RSc σ) l l' := h2
  subst h1
  cases b' with
  | true => simp only [elAV, Option.some.injEq] at hv ⊢; subst hv; exact ⟨_, rfl, l', rfl, h2⟩
  | false =>
    match l, l', h2, hv with
    | [s], [s'], r, hv => simp only [elAV, Option.some.injEq] at hv ⊢; subst hv; exact ⟨_, rfl, s', rfl, r.1⟩
    | [s], _ :: _ :: _, r, _ => exact r.2.elim
    | [s], [], r, _ => exact r.elim
    | [], _, _, hv => simp [elAV] at hv
    | _ :: _ :: _, _, _, hv => simp [elAV] at hv
theorem avEl_rel2 {σ : Sg} {v v' : AV} {x : Bool × List Sc} (hx : avEl v = some x) (r : RAV σ v v') : ∃ y, avEl v' = some y ∧ REl σ x y := by
  cases v with
  | one s =>
    obtain ⟨s', rfl, h⟩ := r
    simp only [avEl, Option.some.injEq] at hx; subst hx
    exact ⟨_, rfl, rfl, h, trivial⟩
  | agg l =>
    obtain ⟨l', rfl, h⟩ := r
    simp only [avEl, Option.some.injEq] at hx; subst hx
    exact ⟨_, rfl, rfl, h⟩
  | tup l => simp [avEl] at hx
  | top => simp [avEl] at hx

theorem fills_rel (place : Nat → Option (Nat × Nat)) {σ : Sg} {ev ev' : Operand → AV} (he : ∀ x, RAV σ (ev x) (ev' x)) : ∀ (parts : List (Nat × Operand)) (cs cs' l : List Sc), LR (RSc σ) cs cs' → fills place cs (parts.map fun (i, x) => (i, ev x)) = some l →
    ∃ l', fills place cs' (parts.map fun (i, x) => (i, ev' x)) = some l' ∧ LR (RSc σ) l l'
  | [], cs, cs', l, r, h => by
    simp only [List.map_nil, fills, Option.some.injEq] at h ⊢
    subst h; exact ⟨_, rfl, r⟩
  | (i, x) :: parts, cs, cs', l, r, h => by
    simp only [List.map_cons, fills, Option.bind_eq_some_iff, Prod.exists] at h
    obtain ⟨off, size, hp, xs, hx, h⟩ := h
    obtain ⟨ys, hy, rx⟩ := cells_rel2 hx (he x)
    split at h
    · rename_i hc
      obtain ⟨l', h', rl⟩ := fills_rel place he parts (cs.take off ++ xs ++ cs.drop (off + size)) (cs'.take off ++ ys ++ cs'.drop (off + size)) l (((r.take off).append rx).append (r.drop (off + size))) h
      refine ⟨l', ?_, rl⟩
      simp only [List.map_cons, fills, hp, Option.bind_some, hy]
      rw [if_pos ⟨by rw [← rx.length]; exact hc.1, by rw [← r.length]; exact hc.2⟩]
      exact h'
    · simp at h
theorem caps_rel2 {σ : Sg} {ev ev' : Operand → AV} (he : ∀ x, RAV σ (ev x) (ev' x)) : ∀ (caps : List Operand) (l : List (Nat × Nat)), capsOf (caps.map ev) = some l → ∃ l', capsOf (caps.map ev') = some l' ∧ LR (RPt σ) l l'
  | [], l, h => by
    simp only [capsOf, List.map_nil, allSome, Option.some.injEq] at h ⊢
    subst h; exact ⟨_, rfl, trivial⟩
  | x :: caps, l, h => by
    unfold capsOf at h ⊢
    simp only [List.map_cons, allSome, Option.bind_eq_some_iff, Option.map_eq_some_iff] at h
    obtain ⟨a, ha, l0, hl, rfl⟩ := h
    obtain ⟨l', h', rl⟩ := caps_rel2 he caps l0 hl
    have := he x
    split at ha
    · rename_i a0 e
      simp only [Option.some.injEq] at ha
      subst ha
      rw [e] at this
      obtain ⟨s', e', a', rfl, ra⟩ := this
      refine ⟨a' :: l', ?_, ra, rl⟩
      simp only [List.map_cons, allSome, e', Option.bind_some]
      unfold capsOf at h'
      rw [h']; rfl
    · cases ha

theorem intsOf_flat : ∀ {l : List Sc} {xs : List Int}, intsOf l = some xs → allB flatSc l = true
  | [], _, _ => rfl
  | s :: l, xs, h => by
    unfold intsOf at h
    split at h
    · rename_i e; cases e
    · rename_i n l' e
      injection e with e1 e2
      subst e1; subst e2
      simp only [Option.map_eq_some_iff] at h
      obtain ⟨ys, hy, -⟩ := h
      simp only [allB, Bool.and_eq_true]
      exact ⟨rfl, intsOf_flat hy⟩
    · cases h

theorem abin_flat {X : Env} {op : BinOp} {t : TypeId} {x y : AV} {s : Sc} (h : abin X op t x y = some s) : flatSc s = true := by
  have ar : ∀ {op : BinOp} {k : IntKind} {a b : Int} {s : Sc}, arith op k a b = some s → flatSc s = true := fun {op k a b s} h => by
    unfold arith at h
    split at h <;> (try split at h) <;> simp at h <;> subst h <;> rfl
  unfold abin at h
  split at h
  · split at h
    · exact ar h
    · cases h
  · split at h <;> simp at h <;> subst h <;> rfl
  · split at h
    · split at h
      · simp at h; subst h; rfl
      · cases h
    · simp at h; subst h; rfl
    · simp at h; subst h; rfl
    · cases h
  · split at h <;> simp at h <;> subst h <;> rfl
  · split at h <;> simp at h <;> subst h <;> rfl
  · split at h
    · split at h
      · split at h <;> simp at h <;> subst h <;> rfl
      · cases h
    · cases h
  · cases h

theorem abin_rel {X : Env} {σ : Sg} {op : BinOp} {t : TypeId} {x y x' y' : AV} {s : Sc} (hn : ∀ a n f z, x ≠ .one (.sl (some a) n f z)) (h : abin X op t x y = some s) (rx : RAV σ x x') (ry : RAV σ y y') : abin X op t x' y' = some s := by
  have same : x.flat = true → y.flat = true → abin X op t x' y' = some s := fun h1 h2 => by rw [RAV.flat h1 rx, RAV.flat h2 ry]; exact h
  have h0 := h
  unfold abin at h
  split at h
  · exact same rfl rfl
  · exact same rfl rfl
  · exact same rfl rfl
  · rename_i a n1 f1 z1 n2 f2 z2
    cases a with
    | none => exact same rfl rfl
    | some a => exact absurd rfl (hn a _ _ _)
  · exact same rfl rfl
  · rename_i a b
    split at h
    · rename_i n xs ys h1 h2 h3
      exact same (intsOf_flat h2) (intsOf_flat h3)
    · cases h
  · cases h

theorem aun_rel {σ : Sg} {op : UnOp} {x x' : AV} {s : Sc} (h : aun op x = some s) (rx : RAV σ x x') : aun op x' = some s ∧ flatSc s = true := by
  unfold aun at h
  split at h
  · rename_i b
    rw [RAV.flat (v := .one (.bool b)) rfl rx]
    simp at h; subst h; exact ⟨rfl, rfl⟩
  · rename_i k n
    rw [RAV.flat (v := .one (.int k n)) rfl rx]
    injection h with h; subst h; exact ⟨rfl, rfl⟩
  · cases h

def ZeroFlat (X : Env) : Prop := ∀ t, allB flatSc (X.T t).zero = true

theorem pop_rel {X : Env} (hz : ZeroFlat X) {σ : Sg} {ev ev' : Operand → AV} (he : ∀ x, RAV σ (ev x) (ev' x)) {op : Op} {v : AV} (hp : pop X ev op = some v) (h : H) (id : Nat) : isCall op = false ∧ ∃ v', aop X ev' h id op = some (v', h) ∧ RAV σ v v' := by
  unfold pop at hp
  cases hiP : isP ev op with
  | false => rw [hiP] at hp; cases hp
  | true =>
  rw [hiP, cond_true] at hp
  have hp : ∃ h0, aop X ev hE 0 op = some (v, h0) := by
    split at hp
    · rename_i v0 h0 e
      injection hp with hp
      subst hp
      exact ⟨h0, e⟩
    · cases hp
  obtain ⟨h0, hp⟩ := hp
  cases op with
  | move x =>
    simp only [aop, Option.some.injEq, Prod.mk.injEq] at hp ⊢
    exact ⟨rfl, ev' x, ⟨rfl, trivial⟩, hp.1 ▸ he x⟩
  | assign x =>
    simp only [aop, Option.some.injEq, Prod.mk.injEq] at hp ⊢
    exact ⟨rfl, ev' x, ⟨rfl, trivial⟩, hp.1 ▸ he x⟩
  | pick c a b =>
    refine ⟨rfl, ?_⟩
    simp only [aop] at hp ⊢
    split at hp
    · rename_i t hc
      have := he c
      rw [hc] at this
      rw [RAV.flat (v := .one (.bool t)) rfl this]
      simp only [Option.some.injEq, Prod.mk.injEq] at hp ⊢
      refine ⟨_, ⟨rfl, trivial⟩, ?_⟩
      rw [← hp.1]
      cases t
      · exact he b
      · exact he a
    · cases hp
  | nilCheck x =>
    refine ⟨rfl, ?_⟩
    simp only [aop] at hp ⊢
    have hx := he x
    split at hp
    · rename_i a e
      simp only [Option.some.injEq, Prod.mk.injEq] at hp
      rw [e] at hx
      obtain ⟨s', e', a', rfl, ra⟩ := hx
      rw [e']
      refine ⟨_, rfl, ?_⟩
      rw [← hp.1]
      exact ⟨_, rfl, a', rfl, ra⟩
    · rename_i g c e
      simp only [Option.some.injEq, Prod.mk.injEq] at hp
      rw [e] at hx
      obtain ⟨s', e', a', rfl, ra⟩ := hx
      rw [e']
      refine ⟨_, rfl, ?_⟩
      rw [← hp.1]
      exact ⟨_, rfl, a', rfl, ra⟩
    · cases hp
  | binOp bop t x y u =>
    refine ⟨rfl, ?_⟩
    simp only [aop, Option.map_eq_some_iff, Prod.mk.injEq] at hp ⊢
    obtain ⟨s, hs, e, -⟩ := hp
    refine ⟨v, ⟨s, abin_rel (fun a n f z e => by simp [isP, e] at hiP) hs (he x) (he y), e, trivial⟩, ?_⟩
    rw [← e]; exact RAV.of_flat (abin_flat hs)
  | unOp uop t x =>
    refine ⟨rfl, ?_⟩
    simp only [aop, Option.map_eq_some_iff, Prod.mk.injEq] at hp ⊢
    obtain ⟨s, hs, e, -⟩ := hp
    obtain ⟨h1, h2⟩ := aun_rel hs (he x)
    refine ⟨v, ⟨s, h1, e, trivial⟩, ?_⟩
    rw [← e]; exact RAV.of_flat h2
  | convert s d x =>
    refine ⟨rfl, ?_⟩
    simp only [aop] at hp ⊢
    have hx := he x
    split at hp
    · rename_i k1 k2 k3 n e1 e2 e3
      rw [e3] at hx
      rw [RAV.flat (v := .one (.int k3 n)) rfl hx]
      simp only [e1, e2]
      simp only [Option.some.injEq, Prod.mk.injEq] at hp ⊢
      refine ⟨v, ⟨hp.1, trivial⟩, ?_⟩
      rw [← hp.1]; exact RAV.of_flat rfl
    · cases hp
  | makeFunc fn first caps =>
    refine ⟨rfl, ?_⟩
    cases fn with
    | func f =>
      simp only [aop] at hp ⊢
      split at hp
      · rename_i hf
        rw [if_pos hf]
        simp only [Option.map_eq_some_iff, Prod.mk.injEq] at hp ⊢
        obtain ⟨l, hl, e, -⟩ := hp
        obtain ⟨l', h', rl⟩ := caps_rel2 he _ _ hl
        refine ⟨_, ⟨l', h', rfl, trivial⟩, ?_⟩
        rw [← e]
        exact ⟨_, rfl, l', rfl, rl⟩
      · cases hp
    | _ => simp [aop] at hp
  | fieldAddr t x f =>
    refine ⟨rfl, ?_⟩
    simp only [aop] at hp ⊢
    have hx := he x
    split at hp
    · rename_i fs i o h1 h2
      rw [h2] at hx
      obtain ⟨s', e', a', rfl, b, hb, rfl⟩ := hx
      simp only [Option.bind_eq_some_iff] at hp
      obtain ⟨q, hq, hp⟩ := hp
      split at hp
      · rename_i hc
        simp only [Option.some.injEq, Prod.mk.injEq] at hp
        simp only [h1, e', hq, Option.bind_some, if_pos hc]
        refine ⟨_, rfl, ?_⟩
        rw [← hp.1]
        exact ⟨_, rfl, _, rfl, b, hb, rfl⟩
      · cases hp
    · cases hp
  | field t x f =>
    refine ⟨rfl, ?_⟩
    simp only [aop] at hp ⊢
    have hx := he x
    split at hp
    · rename_i fs l h1 h2
      rw [h2] at hx
      obtain ⟨l', e', rl⟩ := hx
      simp only [Option.bind_eq_some_iff] at hp
      obtain ⟨q, hq, hp⟩ := hp
      split at hp
      · rename_i hc
        simp only [Option.map_eq_some_iff, Prod.mk.injEq] at hp
        obtain ⟨y, hy, e, -⟩ := hp
        obtain ⟨v', hv', rv⟩ := mkAV_rel2 hy ((rl.drop q.1).take (X.T q.2).size)
        simp only [h1, e', hq, Option.bind_some]
        rw [if_pos (by rw [← rl.length]; exact hc), hv']
        exact ⟨v', rfl, e ▸ rv⟩
      · cases hp
    · cases hp
  | index t x i =>
    refine ⟨rfl, ?_⟩
    simp only [aop] at hp ⊢
    have hx := he x
    have hy := he i
    split at hp
    · rename_i s k n h1 h2 h3
      rw [h2] at hx; rw [h3] at hy
      rw [RAV.flat (v := .one (.str s)) rfl hx, RAV.flat (v := .one (.int k n)) rfl hy]
      simp only [h1]
      split at hp
      · rename_i h4
        rw [if_pos h4]
        simp only [Option.map_eq_some_iff, Prod.mk.injEq] at hp ⊢
        obtain ⟨b, hb, e, -⟩ := hp
        refine ⟨v, ⟨b, hb, e, trivial⟩, ?_⟩
        rw [← e]; exact RAV.of_flat rfl
      · cases hp
    · cases hp
  | extract x i =>
    refine ⟨rfl, ?_⟩
    simp only [aop] at hp ⊢
    have hx := he x
    split at hp
    · rename_i l e
      rw [e] at hx
      obtain ⟨l', e', rl⟩ := hx
      simp only [Option.bind_eq_some_iff, Option.map_eq_some_iff, Prod.mk.injEq] at hp
      obtain ⟨q, hq, y, hy, e, -⟩ := hp
      obtain ⟨q', hq', rq⟩ := rl.get hq
      obtain ⟨v', hv', rv⟩ := elAV_rel2 hy rq
      simp only [e', hq', Option.bind_some, hv', Option.map_some]
      exact ⟨v', rfl, e ▸ rv⟩
    · cases hp
  | build t parts =>
    refine ⟨rfl, ?_⟩
    simp only [aop] at hp ⊢
    split at hp
    · rename_i fs h1
      split at hp
      · rename_i hc
        simp only [Option.map_eq_some_iff, Prod.mk.injEq] at hp
        obtain ⟨l, hl, e, -⟩ := hp
        obtain ⟨l', h', rl⟩ := fills_rel _ he _ _ _ _ (LR.of_flat (hz t)) hl
        rw [if_pos hc, h']
        exact ⟨_, rfl, e ▸ ⟨l', rfl, rl⟩⟩
      · cases hp
    · cases hp
  | call c =>
    obtain ⟨cal, args, ats⟩ := c
    cases cal with
    | builtin b =>
      refine ⟨rfl, ?_⟩
      simp only [isP] at hiP
      simp only [aop] at hp ⊢
      generalize ats.toList = ts at hp ⊢
      generalize args.toList = as at hp ⊢
      cases b <;> simp at hiP
      · -- len
        match ts, as, hp with
        | [t], [x], hp =>
          simp only [abuiltin, List.map_cons, List.map_nil] at hp ⊢
          have hx := he x
          split at hp
          · rename_i s h1 h2
            rw [h2] at hx
            rw [RAV.flat (v := .one (.str s)) rfl hx]
            simp only [h1]
            simp only [Option.some.injEq, Prod.mk.injEq] at hp ⊢
            refine ⟨v, ⟨hp.1, trivial⟩, ?_⟩
            rw [← hp.1]; exact RAV.of_flat rfl
          · rename_i e a n full sz h1 h2
            rw [h2] at hx
            simp only [Option.some.injEq, Prod.mk.injEq] at hp
            obtain ⟨s', e', rs⟩ := hx
            have : ∃ a' f' z', s' = .sl a' n f' z' := by
              cases a with
              | none => have rs : s' = _ := rs; exact ⟨_, _, _, rs⟩
              | some a =>
                rcases rs with ⟨b, _, rfl⟩ | ⟨_, rfl, rfl⟩
                · exact ⟨_, _, _, rfl⟩
                · exact ⟨_, _, _, rfl⟩
            obtain ⟨a', f', z', rfl⟩ := this
            simp only [h1, e']
            refine ⟨v, by rw [hp.1], ?_⟩
            rw [← hp.1]; exact RAV.of_flat rfl
          · cases hp
        | [], _, hp => simp [abuiltin] at hp
        | _ :: _ :: _, _, hp => simp [abuiltin] at hp
        | [_], [], hp => simp [abuiltin] at hp
        | [_], _ :: _ :: _, hp => simp [abuiltin] at hp
      all_goals
        match as, hp with
        | [x, y], hp =>
          simp only [List.map_cons, List.map_nil] at hp ⊢
          have hx := he x
          have hy := he y
          cases hex : ev x with
          | one s =>
            rw [hex] at hp hx
            cases s <;> cases hey : ev y <;> rw [hey] at hp hy <;> try (simp [abuiltin] at hp; done)
            rename_i k1 n1 s2
            cases s2 <;> try (simp [abuiltin] at hp; done)
            rename_i k2 n2
            rw [RAV.flat (v := .one (.int k1 n1)) rfl hx, RAV.flat (v := .one (.int k2 n2)) rfl hy]
            simp only [abuiltin, Option.some.injEq, Prod.mk.injEq] at hp ⊢
            refine ⟨v, ⟨hp.1, trivial⟩, ?_⟩
            rw [← hp.1]; exact RAV.of_flat rfl
          | agg l => rw [hex] at hp; simp [abuiltin] at hp
          | tup l => rw [hex] at hp; simp [abuiltin] at hp
          | top => rw [hex] at hp; simp [abuiltin] at hp
        | [], hp => simp [abuiltin] at hp
        | [_], hp => simp [abuiltin] at hp
        | _ :: _ :: _ :: _, hp => simp [abuiltin] at hp
    | _ => simp [isP] at hiP
  | _ => simp [isP] at hiP

end Go.AM
