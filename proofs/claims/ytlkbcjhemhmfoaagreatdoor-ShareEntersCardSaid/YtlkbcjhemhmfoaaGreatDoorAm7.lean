/- Parts of memory that a step does not see stay; regions whose order is the text's. No program here. -/
import Derived.Test.YtlkbcjhemhmfoaaGreatDoorAm6
set_option linter.unusedSimpArgs false
set_option linter.unusedVariables false
namespace Go.AM
open Go

section
variable {ρ : Rho}

/-- The blocks of two parts. -/
def G.or (g g' : G) : G := fun i => match g i with | some l => some l | none => g' i

theorem G.or_some {g g' : G} {i : Nat} {l : List Sc} (h : G.or g g' i = some l) : g i = some l ∨ (g i = none ∧ g' i = some l) := by
  unfold G.or at h
  split at h
  · rename_i l' e; injection h with h; subst h; exact .inl e
  · rename_i e; exact .inr ⟨e, h⟩

/-- What a step does not see stays. -/
theorem Rel.frame {ρ' : Rho} {gA gA' gB : G} {ro : Nat} {w w' : World} (h : Rel ρ (G.or gA gB) ro w) (hd : ∀ i l, gB i = some l → gA i = none) (hA : Rel ρ' gA' ro w') (hs : Stp ρ ρ' gA gA' ro w w') (hlow : ∀ i, i < ro → gA' i = gA i) :
    Rel ρ' (G.or gA' gB) ro w' ∧ Stp ρ ρ' (G.or gA gB) (G.or gA' gB) ro w w' := by
  have inB : ∀ i l, gB i = some l → G.or gA gB i = some l := fun i l e => by unfold G.or; rw [hd i l e]; exact e
  have inA : ∀ i l, gA i = some l → G.or gA gB i = some l := fun i l e => by unfold G.or; rw [e]
  -- a block of B is none that A may write
  have notWr : ∀ j l p, gB j = some l → ρ j = some p → ¬ Wr ρ gA ro p.1 := fun j l p hj hp ⟨i, l', q, hro, hi, hq, e⟩ => by
    have hne : j ≠ i := fun hh => by subst hh; rw [hd j l hj] at hi; cases hi
    exact h.apart j i l l' (inB j l hj) (inA i l' hi) hne hro p q hp hq e.symm
  have cross : ∀ i j l1 l2 p q, gA' i = some l1 → gB j = some l2 → ρ' i = some p → ρ' j = some q → (ro ≤ i ∨ ro ≤ j) → p.1 ≠ q.1 := by
    intro i j l1 l2 p q hi hj hp hq hro e
    obtain ⟨b, base, room, hq', hl⟩ := h.blk j l2 (inB j l2 hj)
    have hq2 := hs.ext _ _ hq'
    rw [hq] at hq2
    injection hq2 with hq2
    subst hq2
    have hlt := h.lt (inB j l2 hj) hq'
    by_cases hri : ro ≤ i
    · exact notWr j l2 _ hj hq' (by
        have := hs.wr p.1 (by rw [e]; exact hlt) ⟨i, l1, p, hri, hi, hp, rfl⟩
        rwa [e] at this)
    · have hi' := hi
      rw [hlow i (by omega)] at hi'
      obtain ⟨b2, base2, room2, hp', _⟩ := h.blk i l1 (inA i l1 hi')
      have hp2 := hs.ext _ _ hp'
      rw [hp] at hp2
      injection hp2 with hp2
      subst hp2
      have hne : i ≠ j := fun hh => by subst hh; rw [hd i l2 hj] at hi'; cases hi'
      exact h.apart i j l1 l2 (inA i l1 hi') (inB j l2 hj) hne (by omega) _ _ hp' hq' e
  refine ⟨⟨fun i l hi => ?_, fun i j l1 l2 hi hj hne hro p q hp hq => ?_⟩, { hs with keep := fun b hb hn => hs.keep b hb fun ⟨i, l, p, h1, h2, h3, h4⟩ => hn ⟨i, l, p, h1, inA i l h2, h3, h4⟩, wr := fun b hb hw => ?_ }⟩
  · rcases G.or_some hi with hi | ⟨_, hi⟩
    · exact hA.blk i l hi
    · obtain ⟨b, base, room, hp, hl⟩ := h.blk i l (inB i l hi)
      exact ⟨b, base, room, hs.ext _ _ hp, (hl.world (hs.keep b (h.lt (inB i l hi) hp) (notWr i l _ hi hp))).rho hs.ext⟩
  · rcases G.or_some hi with hi | ⟨hi0, hi⟩ <;> rcases G.or_some hj with hj | ⟨hj0, hj⟩
    · exact hA.apart i j l1 l2 hi hj hne hro p q hp hq
    · exact cross i j l1 l2 p q hi hj hp hq (.inr hro)
    · exact fun e => cross j i l2 l1 q p hj hi hq hp (.inl hro) e.symm
    · obtain ⟨b1, x1, y1, hp', _⟩ := h.blk i l1 (inB i l1 hi)
      obtain ⟨b2, x2, y2, hq', _⟩ := h.blk j l2 (inB j l2 hj)
      have hp2 := hs.ext _ _ hp'
      have hq2 := hs.ext _ _ hq'
      rw [hp] at hp2; rw [hq] at hq2
      injection hp2 with hp2; injection hq2 with hq2
      subst hp2 hq2
      exact h.apart i j l1 l2 (inB i l1 hi) (inB j l2 hj) hne hro _ _ hp' hq'
  · obtain ⟨i, l, p, hro, hi, hp, rfl⟩ := hw
    rcases G.or_some hi with hi | ⟨_, hi⟩
    · obtain ⟨i', l', p', h1, h2, h3, h4⟩ := hs.wr p.1 hb ⟨i, l, p, hro, hi, hp, rfl⟩
      exact ⟨i', l', p', h1, inA i' l' h2, h3, h4⟩
    · obtain ⟨b1, x1, y1, hp', _⟩ := h.blk i l (inB i l hi)
      have hp2 := hs.ext _ _ hp'
      rw [hp] at hp2
      injection hp2 with hp2
      subst hp2
      exact ⟨i, l, _, hro, inB i l hi, hp', rfl⟩

/-! ### An operation leaves alone what is only read -/
theorem H.store_low {h h' : H} {i o : Nat} {xs : List Sc} (hs : h.store i o xs = some h') : (∀ k, k < h.ro → h'.get k = h.get k) := by
  unfold H.store at hs
  split at hs
  · rename_i hro
    simp only [Option.bind_eq_some_iff] at hs
    obtain ⟨l, hl, hs⟩ := hs
    split at hs
    · simp only [Option.some.injEq] at hs
      subst hs
      intro k hk
      rw [H.get_put, if_neg (by omega)]
    · simp at hs
  · simp at hs

theorem abuiltin_low {X : Env} {h h' : H} {id : Nat} (hid : h.ro ≤ id) {b : Builtin} {ts : List TypeId} {args : List AV} {v : AV} (ha : abuiltin X h id b ts args = some (v, h')) : ∀ k, k < h.ro → h'.get k = h.get k := by
  intro k hk
  unfold abuiltin at ha
  split at ha
  · split at ha <;> simp at ha <;> rw [← ha.2]
  · split at ha
    · dsimp only at ha
      split at ha
      · simp at ha
      · simp only [Option.bind_eq_some_iff, Prod.exists] at ha
        obtain ⟨n, new, _, ha⟩ := ha
        split at ha
        · split at ha
          · simp at ha; rw [← ha.2]
          · split at ha
            · simp at ha; rw [← ha.2, H.get_put, if_neg (by omega)]
            · simp at ha
        · split at ha
          · simp at ha; rw [← ha.2]
          · split at ha
            · simp only [Option.bind_eq_some_iff] at ha
              obtain ⟨old, _, ha⟩ := ha
              split at ha
              · simp at ha; rw [← ha.2, H.get_put, if_neg (by omega)]
              · split at ha
                · simp at ha; rw [← ha.2, H.get_put, if_neg (by omega), H.get_kill, if_neg (by omega)]
                · simp at ha
            · simp at ha
        · simp at ha
    · simp at ha
  · split at ha
    · dsimp only at ha
      split at ha
      · simp only [Option.bind_eq_some_iff, Prod.exists] at ha
        obtain ⟨n, new, _, ha⟩ := ha
        split at ha
        · simp only [Option.map_eq_some_iff, Prod.mk.injEq] at ha
          obtain ⟨h1, hs, _, rfl⟩ := ha
          exact H.store_low hs k hk
        · simp at ha
      · simp at ha
    · simp at ha
  · split at ha
    · simp at ha; rw [← ha.2]
    · split at ha
      · simp at ha; rw [← ha.2]
      · split at ha
        · simp only [Option.map_eq_some_iff, Prod.mk.injEq] at ha
          obtain ⟨h1, hs, _, rfl⟩ := ha
          exact H.store_low hs k hk
        · simp at ha
    · simp at ha
  · simp at ha; rw [← ha.2]
  · simp at ha; rw [← ha.2]
  · simp at ha

theorem aop_low {X : Env} {ev : Operand → AV} {h h' : H} {id : Nat} (hid : h.ro ≤ id) {op : Op} {v : AV} (ha : aop X ev h id op = some (v, h')) : ∀ k, k < h.ro → h'.get k = h.get k := by
  intro k hk
  have hput : ∀ l, (h.put id l).get k = h.get k := fun l => by rw [H.get_put, if_neg (by omega)]
  cases op with
  | alloc t => simp only [aop] at ha; split at ha <;> simp at ha; rw [← ha.2]; exact hput _
  | box t x => simp only [aop, Option.map_eq_some_iff, Prod.mk.injEq] at ha; obtain ⟨l, _, _, rfl⟩ := ha; exact hput _
  | makeSlice t l c =>
    simp only [aop] at ha
    split at ha
    · split at ha <;> simp at ha
      rw [← ha.2]; exact hput _
    · simp at ha
  | buildSlice t n ps =>
    simp only [aop] at ha
    split at ha
    · split at ha
      · simp only [Option.map_eq_some_iff, Prod.mk.injEq] at ha
        obtain ⟨l, _, _, rfl⟩ := ha; exact hput _
      · simp at ha
    · simp at ha
  | store t x y =>
    simp only [aop] at ha
    split at ha
    · split at ha
      · simp at ha
      · simp only [Option.bind_eq_some_iff] at ha
        obtain ⟨l, _, ha⟩ := ha
        split at ha
        · simp only [Option.map_eq_some_iff, Prod.mk.injEq] at ha
          obtain ⟨h1, hs, _, rfl⟩ := ha
          exact H.store_low hs k hk
        · simp at ha
    · simp at ha
  | call c =>
    obtain ⟨cal, args, tys⟩ := c
    cases cal with
    | builtin b => simp only [aop] at ha; exact abuiltin_low hid ha k hk
    | _ => simp [aop] at ha
  | move x => simp [aop] at ha; rw [← ha.2]
  | assign x => simp [aop] at ha; rw [← ha.2]
  | pick c x y => simp only [aop] at ha; split at ha <;> simp at ha; rw [← ha.2]
  | load t x =>
    simp only [aop] at ha
    split at ha
    · split at ha
      · simp at ha
      · simp only [Option.bind_eq_some_iff, Option.map_eq_some_iff, Prod.mk.injEq] at ha
        obtain ⟨_, _, _, _, _, rfl⟩ := ha; rfl
    · simp at ha
  | nilCheck x => simp only [aop] at ha; split at ha <;> simp at ha <;> rw [← ha.2]
  | binOp op t x y ty => simp only [aop, Option.map_eq_some_iff, Prod.mk.injEq] at ha; obtain ⟨_, _, _, rfl⟩ := ha; rfl
  | unOp op t x => simp only [aop, Option.map_eq_some_iff, Prod.mk.injEq] at ha; obtain ⟨_, _, _, rfl⟩ := ha; rfl
  | convert s d x => simp only [aop] at ha; split at ha <;> simp at ha; rw [← ha.2]
  | makeFunc f first caps =>
    cases f with
    | func g =>
      simp only [aop] at ha
      split at ha
      · simp only [Option.map_eq_some_iff, Prod.mk.injEq] at ha; obtain ⟨_, _, _, rfl⟩ := ha; rfl
      · simp at ha
    | _ => simp [aop] at ha
  | slice t x lo hi mx => simp only [aop, Option.map_eq_some_iff, Prod.mk.injEq] at ha; obtain ⟨_, _, _, rfl⟩ := ha; rfl
  | fieldAddr t x f =>
    simp only [aop] at ha
    split at ha
    · simp only [Option.bind_eq_some_iff, Prod.exists] at ha
      obtain ⟨_, _, _, ha⟩ := ha
      split at ha <;> simp at ha
      rw [← ha.2]
    · simp at ha
  | field t x f =>
    simp only [aop] at ha
    split at ha
    · simp only [Option.bind_eq_some_iff, Prod.exists] at ha
      obtain ⟨_, _, _, ha⟩ := ha
      split at ha
      · simp only [Option.map_eq_some_iff, Prod.mk.injEq] at ha; obtain ⟨_, _, _, rfl⟩ := ha; rfl
      · simp at ha
    · simp at ha
  | indexAddr t x i => simp only [aop, Option.map_eq_some_iff, Prod.mk.injEq] at ha; obtain ⟨_, _, _, rfl⟩ := ha; rfl
  | index t x i =>
    simp only [aop] at ha
    split at ha
    · split at ha
      · simp only [Option.map_eq_some_iff, Prod.mk.injEq] at ha; obtain ⟨_, _, _, rfl⟩ := ha; rfl
      · simp at ha
    · simp at ha
  | extract x i =>
    simp only [aop] at ha
    split at ha
    · simp only [Option.bind_eq_some_iff, Option.map_eq_some_iff, Prod.mk.injEq] at ha
      obtain ⟨_, _, _, _, _, rfl⟩ := ha; rfl
    · simp at ha
  | build t parts =>
    simp only [aop] at ha
    split at ha
    · split at ha
      · simp only [Option.map_eq_some_iff, Prod.mk.injEq] at ha; obtain ⟨_, _, _, rfl⟩ := ha; rfl
      · simp at ha
    · simp at ha
  | _ => simp [aop] at ha

theorem H.store_born {h h' : H} {i o : Nat} {xs : List Sc} (hs : h.store i o xs = some h') : (∀ k, h'.get k ≠ none → h.get k ≠ none) := by
  unfold H.store at hs
  split at hs
  · rename_i hro
    simp only [Option.bind_eq_some_iff] at hs
    obtain ⟨l, hl, hs⟩ := hs
    split at hs
    · simp only [Option.some.injEq] at hs
      subst hs
      intro k hk
      rw [H.get_put] at hk
      split at hk
      · rename_i e; subst e; rw [hl]; simp
      · exact hk
    · simp at hs
  · simp at hs

theorem abuiltin_born {X : Env} {h h' : H} {id : Nat} {b : Builtin} {ts : List TypeId} {args : List AV} {v : AV} (ha : abuiltin X h id b ts args = some (v, h')) : ∀ k, k ≠ id → h'.get k ≠ none → h.get k ≠ none := by
  intro k hk hn
  unfold abuiltin at ha
  split at ha
  · split at ha <;> simp at ha <;> (rw [← ha.2] at hn; exact hn)
  · split at ha
    · dsimp only at ha
      split at ha
      · simp at ha
      · simp only [Option.bind_eq_some_iff, Prod.exists] at ha
        obtain ⟨n, new, _, ha⟩ := ha
        split at ha
        · split at ha
          · simp at ha; (rw [← ha.2] at hn; exact hn)
          · split at ha
            · simp at ha; (rw [← ha.2, H.get_put, if_neg hk] at hn; exact hn)
            · simp at ha
        · split at ha
          · simp at ha; (rw [← ha.2] at hn; exact hn)
          · split at ha
            · simp only [Option.bind_eq_some_iff] at ha
              obtain ⟨old, _, ha⟩ := ha
              split at ha
              · simp at ha; (rw [← ha.2, H.get_put, if_neg hk] at hn; exact hn)
              · split at ha
                · simp at ha; (rw [← ha.2, H.get_put, if_neg hk, H.get_kill] at hn; split at hn <;> first | exact absurd rfl hn | exact hn)
                · simp at ha
            · simp at ha
        · simp at ha
    · simp at ha
  · split at ha
    · dsimp only at ha
      split at ha
      · simp only [Option.bind_eq_some_iff, Prod.exists] at ha
        obtain ⟨n, new, _, ha⟩ := ha
        split at ha
        · simp only [Option.map_eq_some_iff, Prod.mk.injEq] at ha
          obtain ⟨h1, hs, _, rfl⟩ := ha
          exact H.store_born hs k hn
        · simp at ha
      · simp at ha
    · simp at ha
  · split at ha
    · simp at ha; (rw [← ha.2] at hn; exact hn)
    · split at ha
      · simp at ha; (rw [← ha.2] at hn; exact hn)
      · split at ha
        · simp only [Option.map_eq_some_iff, Prod.mk.injEq] at ha
          obtain ⟨h1, hs, _, rfl⟩ := ha
          exact H.store_born hs k hn
        · simp at ha
    · simp at ha
  · simp at ha; (rw [← ha.2] at hn; exact hn)
  · simp at ha; (rw [← ha.2] at hn; exact hn)
  · simp at ha

theorem aop_born {X : Env} {ev : Operand → AV} {h h' : H} {id : Nat} {op : Op} {v : AV} (ha : aop X ev h id op = some (v, h')) : ∀ k, k ≠ id → h'.get k ≠ none → h.get k ≠ none := by
  intro k hk hn
  have hput : ∀ l, (h.put id l).get k = h.get k := fun l => by rw [H.get_put, if_neg hk]
  cases op with
  | alloc t => simp only [aop] at ha; split at ha <;> simp at ha; (rw [← ha.2, hput] at hn; exact hn)
  | box t x => simp only [aop, Option.map_eq_some_iff, Prod.mk.injEq] at ha; obtain ⟨l, _, _, rfl⟩ := ha; rw [hput] at hn; exact hn
  | makeSlice t l c =>
    simp only [aop] at ha
    split at ha
    · split at ha <;> simp at ha
      (rw [← ha.2, hput] at hn; exact hn)
    · simp at ha
  | buildSlice t n ps =>
    simp only [aop] at ha
    split at ha
    · split at ha
      · simp only [Option.map_eq_some_iff, Prod.mk.injEq] at ha
        obtain ⟨l, _, _, rfl⟩ := ha; rw [hput] at hn; exact hn
      · simp at ha
    · simp at ha
  | store t x y =>
    simp only [aop] at ha
    split at ha
    · split at ha
      · simp at ha
      · simp only [Option.bind_eq_some_iff] at ha
        obtain ⟨l, _, ha⟩ := ha
        split at ha
        · simp only [Option.map_eq_some_iff, Prod.mk.injEq] at ha
          obtain ⟨h1, hs, _, rfl⟩ := ha
          exact H.store_born hs k hn
        · simp at ha
    · simp at ha
  | call c =>
    obtain ⟨cal, args, tys⟩ := c
    cases cal with
    | builtin b => simp only [aop] at ha; exact abuiltin_born ha k hk hn
    | _ => simp [aop] at ha
  | move x => simp [aop] at ha; (rw [← ha.2] at hn; exact hn)
  | assign x => simp [aop] at ha; (rw [← ha.2] at hn; exact hn)
  | pick c x y => simp only [aop] at ha; split at ha <;> simp at ha; (rw [← ha.2] at hn; exact hn)
  | load t x =>
    simp only [aop] at ha
    split at ha
    · split at ha
      · simp at ha
      · simp only [Option.bind_eq_some_iff, Option.map_eq_some_iff, Prod.mk.injEq] at ha
        obtain ⟨_, _, _, _, _, rfl⟩ := ha; exact hn
    · simp at ha
  | nilCheck x => simp only [aop] at ha; split at ha <;> simp at ha <;> (rw [← ha.2] at hn; exact hn)
  | binOp op t x y ty => simp only [aop, Option.map_eq_some_iff, Prod.mk.injEq] at ha; obtain ⟨_, _, _, rfl⟩ := ha; exact hn
  | unOp op t x => simp only [aop, Option.map_eq_some_iff, Prod.mk.injEq] at ha; obtain ⟨_, _, _, rfl⟩ := ha; exact hn
  | convert s d x => simp only [aop] at ha; split at ha <;> simp at ha; (rw [← ha.2] at hn; exact hn)
  | makeFunc f first caps =>
    cases f with
    | func g =>
      simp only [aop] at ha
      split at ha
      · simp only [Option.map_eq_some_iff, Prod.mk.injEq] at ha; obtain ⟨_, _, _, rfl⟩ := ha; exact hn
      · simp at ha
    | _ => simp [aop] at ha
  | slice t x lo hi mx => simp only [aop, Option.map_eq_some_iff, Prod.mk.injEq] at ha; obtain ⟨_, _, _, rfl⟩ := ha; exact hn
  | fieldAddr t x f =>
    simp only [aop] at ha
    split at ha
    · simp only [Option.bind_eq_some_iff, Prod.exists] at ha
      obtain ⟨_, _, _, ha⟩ := ha
      split at ha <;> simp at ha
      (rw [← ha.2] at hn; exact hn)
    · simp at ha
  | field t x f =>
    simp only [aop] at ha
    split at ha
    · simp only [Option.bind_eq_some_iff, Prod.exists] at ha
      obtain ⟨_, _, _, ha⟩ := ha
      split at ha
      · simp only [Option.map_eq_some_iff, Prod.mk.injEq] at ha; obtain ⟨_, _, _, rfl⟩ := ha; exact hn
      · simp at ha
    · simp at ha
  | indexAddr t x i => simp only [aop, Option.map_eq_some_iff, Prod.mk.injEq] at ha; obtain ⟨_, _, _, rfl⟩ := ha; exact hn
  | index t x i =>
    simp only [aop] at ha
    split at ha
    · split at ha
      · simp only [Option.map_eq_some_iff, Prod.mk.injEq] at ha; obtain ⟨_, _, _, rfl⟩ := ha; exact hn
      · simp at ha
    · simp at ha
  | extract x i =>
    simp only [aop] at ha
    split at ha
    · simp only [Option.bind_eq_some_iff, Option.map_eq_some_iff, Prod.mk.injEq] at ha
      obtain ⟨_, _, _, _, _, rfl⟩ := ha; exact hn
    · simp at ha
  | build t parts =>
    simp only [aop] at ha
    split at ha
    · split at ha
      · simp only [Option.map_eq_some_iff, Prod.mk.injEq] at ha; obtain ⟨_, _, _, rfl⟩ := ha; exact hn
      · simp at ha
    · simp at ha
  | _ => simp [aop] at ha

/-! ### Slots -/
structure FrR (ρ : Rho) (nt : Nat) (fr : Fr) (a : Act) : Prop where
  v : ∀ i, avR ρ (fr.get i) (a.tmps.getD i undef)
  sz : a.tmps.size = nt
  df : a.defers = []

theorem undef_rel (ρ : Rho) : avR ρ undefA undef := ⟨#[], rfl, trivial⟩

theorem FrR.ev {nt : Nat} {fr : Fr} {a : Act} (h : FrR ρ nt fr a) (x : Operand) : avR ρ (fr.ev x) (a.eval x) := by
  cases x with
  | tmp t => exact h.v t
  | const v => exact constAV_rel ρ v
  | func f => exact ⟨#[], rfl, trivial⟩
  | global g => trivial

theorem FrR.put {nt : Nat} {fr fr' : Fr} {a : Act} (h : FrR ρ nt fr a) {ρ' : Rho} (hle : ρ.le ρ') {dst : Option Tmp} {v : AV} {v' : Value} (hv : avR ρ' v v') (hp : putS nt fr dst v = some fr') : FrR ρ' nt fr' (a.put dst v') := by
  unfold putS at hp
  cases dst with
  | none => simp at hp; subst hp; exact ⟨fun i => (h.v i).mono hle, h.sz, h.df⟩
  | some d =>
    dsimp only at hp
    split at hp
    · simp at hp; subst hp
      rename_i hd
      refine ⟨fun i => ?_, by simp [Act.put, h.sz], h.df⟩
      rw [Fr.get_set]
      by_cases e : i = d
      · subst e
        have : (a.put (some i) v').tmps.getD i undef = v' := by simp [Act.put, h.sz, hd]
        rw [this, if_pos rfl]; exact hv
      · have : (a.put (some d) v').tmps.getD i undef = a.tmps.getD i undef := by
          simp [Act.put, Array.getElem?_setIfInBounds_ne (Ne.symm e)]
        rw [this, if_neg e]; exact (h.v i).mono hle
    · simp at hp

theorem wanted_rel {nt : Nat} {fr : Fr} {a : Act} (h : FrR ρ nt fr a) {ops : List Oper} {o : Oper} {b : Bool} (hw : wantedA ops fr o = some b) : Region.wanted o (yielded ops.toArray a.tmps) = b := by
  unfold wantedA at hw
  unfold Region.wanted
  split at hw
  · rename_i hg; simp at hw; subst hw; simp [hg]
  · rename_i j want hg
    simp only [hg]
    split at hw
    · rename_i d hd
      have hv := h.v d
      unfold yielded
      have hd' : ((ops.toArray[j]?).bind (·.dst)) = some d := by simpa using hd
      rw [hd']
      simp only [Option.bind_some]
      have hget : a.tmps.getD d undef = (a.tmps[d]?).getD undef := by simp
      rw [hget] at hv
      split at hw
      · rename_i b' hb
        rw [hb] at hv
        simp at hw; subst hw
        cases ht : a.tmps[d]? with
        | none =>
          rw [ht] at hv
          have : undef = Value.bool b' := hv
          cases this
        | some v =>
          rw [ht] at hv
          have : v = Value.bool b' := hv
          subst this
          simp
      · rename_i hb
        rw [hb] at hv
        simp at hw; subst hw
        cases ht : a.tmps[d]? with
        | none => simp
        | some v =>
          rw [ht] at hv
          obtain ⟨vs, e, _⟩ := hv
          have e : v = .tuple vs := e
          subst e
          simp
      · simp at hw
    · simp at hw

/-! ### A region in the text's order -/
/-- What a call of the machine's stands for. -/
def CallOK (P : Program) (cf : CallF) : Prop := ∀ f args h v h', cf f args h = some (v, h') → (∀ vs w, (callFunc f vs).run P w = .ok (.enter f vs) w) ∧ ∀ (ρ : Rho) w (vs : Array Value), Rel ρ h.get h.ro w → h.ro ≤ h.nx → (∀ i, h.nx ≤ i → ρ i = none) → LR (avR ρ) args vs.toList →
  Calls P f vs w fun e w' => ∃ v' ρ', e = .returned v' ∧ avR ρ' v v' ∧ Rel ρ' h'.get h'.ro w' ∧ Stp ρ ρ' h.get h'.get h.ro w w' ∧ h'.ro = h.ro ∧ h.nx ≤ h'.nx ∧ (∀ i, ρ i = none → (i < h.nx ∨ h'.nx ≤ i) → ρ' i = none) ∧ (∀ i, i < h.ro → h'.get i = h.get i) ∧ (∀ i, i < h.nx → h'.get i ≠ none → h.get i ≠ none)

/-- What a step of the machine's stands for; c: the first number that may have been given. -/
structure Ran (nt c : Nat) (ρ : Rho) (h : H) (w : World) (fr' : Fr) (h' : H) (a' : Act) (w' : World) (ρ' : Rho) : Prop where
  fr : FrR ρ' nt fr' a'
  rel : Rel ρ' h'.get h'.ro w'
  stp : Stp ρ ρ' h.get h'.get h.ro w w'
  ro : h'.ro = h.ro
  nx : h.nx ≤ h'.nx
  fresh : ∀ i, ρ i = none → (i < c ∨ h'.nx ≤ i) → ρ' i = none
  low : ∀ i, i < h.ro → h'.get i = h.get i
  born : ∀ i, i < c → h'.get i ≠ none → h.get i ≠ none

theorem callee_run {P : Program} {nt : Nat} {fr : Fr} {a : Act} (h : FrR ρ nt fr a) {o : Oper} (hc : isCall o.op = true) {g : FuncId} {args : List AV} (hcal : callee fr.ev o.op = some (g, args)) (w : World) :
    ∃ vs : Array Value, LR (avR ρ) args vs.toList ∧ (execOp a.eval o).run P w = (callFunc g vs).run P w := by
  obtain ⟨dst, op, type, pos, after, guard⟩ := o
  dsimp only at hc hcal
  unfold callee at hcal
  split at hcal
  · rename_i f cargs tys
    split at hcal
    · rename_i g' caps hf
      simp only [Option.some.injEq, Prod.mk.injEq] at hcal
      obtain ⟨rfl, rfl⟩ := hcal
      have hv := h.ev f
      rw [hf] at hv
      obtain ⟨cs, hfun, hcaps⟩ := hv
      refine ⟨cargs.map a.eval ++ cs, ?_, ?_⟩
      · rw [Array.toList_append]
        refine (ev_list (fun x => h.ev x) cargs).append ?_
        have : ∀ {l : List (Nat × Nat)} {vs : List Value}, LR (ptrR ρ) l vs → LR (avR ρ) (l.map fun a => AV.one (.ptr (some a))) vs := by
          intro l
          induction l with
          | nil => intro vs h; cases vs <;> exact h
          | cons x l ih => intro vs h; cases vs with
            | nil => exact h.elim
            | cons v vs => exact ⟨h.1, ih h.2⟩
        exact this hcaps
      · simp only [execOp, resolve, hfun, Deferred.ofValue, Sem.run_bind, Sem.run_pure, Result.andThen_ok, invoke]
        simp
    · simp at hcal
  · simp at hcal


theorem Oper.wp_value {P : Program} {o : Oper} {a : Act} {w w' : World} {v : Value} {K : Act → World → Prop} {Q : Exit → Act → World → Prop} (h : (execOp a.eval o).run P w = .ok (.value v) w') (hk : K (a.put o.dst v) w') : o.wp P a w K Q := by
  unfold Oper.wp; rw [h]; exact hk
theorem Oper.wp_skip {P : Program} {o : Oper} {a : Act} {w w' : World} {K : Act → World → Prop} {Q : Exit → Act → World → Prop} (h : (execOp a.eval o).run P w = .ok .skip w') (hk : K (a.put o.dst undef) w') : o.wp P a w K Q := by
  unfold Oper.wp; rw [h]; exact hk

theorem stepA_run {P : Program} {X : Env} {cf : CallF} (hcf : CallOK P cf) (hT : X.T = tyOf P) (hS : SEqOK P X) {nt c : Nat} {ops : List Oper} {i : Nat} {o : Oper} {fr fr' : Fr} {h h' : H} (hs : stepA X cf nt c ops i o fr h = some (fr', h')) (ho : ops[i]? = some o)
    {a : Act} {w : World} (hfr : FrR ρ nt fr a) (hR : Rel ρ h.get h.ro w) (hro : h.ro ≤ c) (hid : ρ (c + i) = none) (hci : c + i < h.nx) (hfresh : ∀ k, h.nx ≤ k → ρ k = none) {K : Act → World → Prop} {Q : Exit → Act → World → Prop}
    (hK : ∀ a' w' ρ', Ran nt c ρ h w fr' h' a' w' ρ' → (∀ j, ρ (c + j) = none → c + j < h.nx → j ≠ i → ρ' (c + j) = none) → K a' w') : wpOp P ops.toArray Q i K a w := by
  unfold stepA at hs
  simp only [Option.bind_eq_some_iff] at hs
  obtain ⟨b, hb, hs⟩ := hs
  have hw := wanted_rel hfr hb
  have hoi : ops.toArray[i]? = some o := by simpa using ho
  unfold wpOp
  rw [hoi]
  dsimp only
  rw [hw]
  cases b with
  | false =>
    simp only [Bool.false_eq_true, if_false, Option.map_eq_some_iff, Prod.mk.injEq] at hs ⊢
    obtain ⟨f1, hp, rfl, rfl⟩ := hs
    exact hK _ _ ρ ⟨hfr.put (Rho.le_refl ρ) (undef_rel ρ) hp, hR, Stp.refl .., rfl, Nat.le_refl _, fun _ h _ => h, fun _ _ => rfl, fun _ _ h => h⟩ (fun _ h _ _ => h)
  | true =>
    simp only [if_true] at hs ⊢
    refine .inl ?_
    split at hs
    · rename_i hc
      simp only [Option.bind_eq_some_iff, Option.map_eq_some_iff, Prod.exists, Prod.mk.injEq] at hs
      obtain ⟨g, args, hcal, v, h1, hcall, f1, hp, rfl, rfl⟩ := hs
      obtain ⟨vs, hvs, hrun⟩ := callee_run hfr hc hcal w
      obtain ⟨hent, hcalls⟩ := hcf g args h v h1 hcall
      unfold Oper.wp
      rw [hrun, hent]
      refine Calls.mono (hcalls ρ w vs hR (by omega) hfresh hvs) fun e w' ⟨v', ρ', he, hv', hR', hst, hro', hnx', hfr', hlow, hborn⟩ => ?_
      subst he
      refine hK _ _ ρ' ⟨hfr.put hst.ext hv' hp, hR', hst, hro', hnx', fun k hk hkk => ?_, hlow, fun k hk => hborn k (by omega)⟩ fun j hj hlt _ => hfr' _ hj (.inl hlt)
      exact hfr' k hk (by omega)
    · simp only [Option.bind_eq_some_iff, Option.map_eq_some_iff, Prod.exists, Prod.mk.injEq] at hs
      obtain ⟨v, h1, hop, f1, hp, rfl, rfl⟩ := hs
      obtain ⟨v', w', ρ', hr, hv', hR', hst, hro', hnx', hfr'⟩ := aop_did hT hS hR hid (by omega) (fun x => hfr.ev x) hop
      have hran : Ran nt c ρ h w f1 h1 (a.put o.dst v') w' ρ' := ⟨hfr.put hst.ext hv' hp, hR', hst, hro', by omega, fun k hk hkk => hfr' k hk (by omega), aop_low (by omega) hop, fun k hk => aop_born hop k (by omega)⟩
      have hk := hK _ _ ρ' hran fun j hj _ hne => hfr' _ hj (by omega)
      rcases hr with hr | ⟨hr, rfl⟩
      · exact Oper.wp_value hr hk
      · exact Oper.wp_skip hr hk

theorem seqA_run {P : Program} {X : Env} {cf : CallF} (hcf : CallOK P cf) (hT : X.T = tyOf P) (hS : SEqOK P X) {nt c : Nat} {ops : List Oper} {Q : Exit → Act → World → Prop} :
    ∀ (rest : List Oper) (i : Nat) (fr fr' : Fr) (h h' : H) (ρ : Rho) (a : Act) (w : World), rest = ops.drop i → seqA X cf nt c ops i rest fr h = some (fr', h') → FrR ρ nt fr a → Rel ρ h.get h.ro w → h.ro ≤ c → c + ops.length ≤ h.nx →
      (∀ j, i ≤ j → j < ops.length → ρ (c + j) = none) → (∀ k, h.nx ≤ k → ρ k = none) → (∀ a' w' ρ', Ran nt c ρ h w fr' h' a' w' ρ' → Q .normal a' w') → wpOps P ops.toArray Q (List.range' i rest.length) a w
  | [], i, fr, fr', h, h', ρ, a, w, _, hs, hfr, hR, hro, hn, hid, hfresh, hQ => by
    simp only [seqA, Option.some.injEq, Prod.mk.injEq] at hs
    obtain ⟨rfl, rfl⟩ := hs
    exact hQ a w ρ ⟨hfr, hR, Stp.refl .., rfl, Nat.le_refl _, fun _ h _ => h, fun _ _ => rfl, fun _ _ h => h⟩
  | o :: rest, i, fr, fr', h, h', ρ, a, w, hd, hs, hfr, hR, hro, hn, hid, hfresh, hQ => by
    simp only [seqA, Option.bind_eq_some_iff, Prod.exists] at hs
    obtain ⟨f1, h1, hs1, hs⟩ := hs
    have ho : ops[i]? = some o := by
      have : (ops.drop i)[0]? = some o := by rw [← hd]; rfl
      simpa using this
    have hi : i < ops.length := (List.getElem?_eq_some_iff.1 ho).1
    rw [List.length_cons, List.range'_succ, wpOps_cons]
    refine stepA_run hcf hT hS hs1 ho hfr hR hro (hid i (Nat.le_refl _) hi) (by omega) hfresh fun a' w' ρ' hran hoth => ?_
    refine seqA_run hcf hT hS rest (i + 1) f1 fr' h1 h' ρ' a' w' (by rw [← List.drop_drop, ← hd]; rfl) hs hran.fr hran.rel (by rw [hran.ro]; exact hro) (by have := hran.nx; omega)
      (fun j hj hlt => hoth j (hid j (by omega) hlt) (by omega) (by omega)) (fun k hk => hran.fresh k (hfresh k (by have := hran.nx; omega)) (.inr hk)) fun a2 w2 ρ2 hran2 => ?_
    refine hQ a2 w2 ρ2 ⟨hran2.fr, hran2.rel, ?_, hran2.ro.trans hran.ro, Nat.le_trans hran.nx hran2.nx, fun k hk hkk => ?_, fun k hk => (hran2.low k (by rw [hran.ro]; exact hk)).trans (hran.low k hk), fun k hk hn => hran.born k hk (hran2.born k hk hn)⟩
    · have h2 := hran2.stp
      rw [hran.ro] at h2
      exact hran.stp.trans h2
    · refine hran2.fresh k (hran.fresh k hk ?_) hkk
      have := hran2.nx
      omega

end
end Go.AM
