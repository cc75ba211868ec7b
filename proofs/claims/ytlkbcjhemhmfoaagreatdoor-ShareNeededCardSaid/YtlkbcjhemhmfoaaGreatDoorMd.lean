/- The machine, fourth part. -/
import Derived.Test.YtlkbcjhemhmfoaaGreatDoorMc
section
/- More blocks, and more fuel: the machine comes to the same, and leaves the further blocks as they are. No program here. -/
set_option linter.unusedSimpArgs false
set_option linter.unusedVariables false
set_option linter.unnecessarySimpa false
namespace Go.AM
open Go

/-- h with the further blocks gB. -/
structure Ext (gB : G) (h hp : H) : Prop where
  nx : hp.nx = h.nx
  ro : hp.ro = h.ro
  get : ∀ i, hp.get i = G.or h.get gB i
  off : ∀ i l, gB i = some l → h.get i = none

section
variable {gB : G}

theorem Ext.has {h hp : H} (x : Ext gB h hp) {i : Nat} {l : List Sc} (e : h.get i = some l) : hp.get i = some l := by
  rw [x.get]; unfold G.or; rw [e]
theorem Ext.noB {h hp : H} (x : Ext gB h hp) {i : Nat} {l : List Sc} (e : h.get i = some l) : gB i = none := by
  cases hb : gB i with
  | none => rfl
  | some y => have := x.off i y hb; rw [e] at this; cases this
theorem Ext.load {h hp : H} (x : Ext gB h hp) {i o n : Nat} {l : List Sc} (e : h.load i o n = some l) : hp.load i o n = some l := by
  obtain ⟨bl, hb, h1, h2⟩ := H.load_get e
  unfold H.load
  rw [x.has hb, Option.bind_some, if_pos h1, h2]
theorem Ext.put {h hp : H} (x : Ext gB h hp) {i : Nat} (l : List Sc) (hb : gB i = none) : Ext gB (h.put i l) (hp.put i l) where
  nx := x.nx
  ro := x.ro
  get j := by
    rw [H.get_put]
    unfold G.or
    rw [H.get_put]
    by_cases e : j = i
    · rw [if_pos e, if_pos e]
    · rw [if_neg e, if_neg e, x.get]; rfl
  off j l' hj := by
    rw [H.get_put, if_neg (fun e => by subst e; rw [hb] at hj; cases hj)]
    exact x.off j l' hj
theorem Ext.kill {h hp : H} (x : Ext gB h hp) {i : Nat} (hb : gB i = none) : Ext gB (h.kill i) (hp.kill i) where
  nx := x.nx
  ro := x.ro
  get j := by
    rw [H.get_kill]
    unfold G.or
    rw [H.get_kill]
    by_cases e : j = i
    · subst e; rw [if_pos rfl, if_pos rfl]; exact hb.symm
    · rw [if_neg e, if_neg e, x.get]; rfl
  off j l' hj := by
    rw [H.get_kill]
    split
    · rfl
    · exact x.off j l' hj
theorem Ext.store {h hp h' : H} (x : Ext gB h hp) {i o : Nat} {xs : List Sc} (e : h.store i o xs = some h') : ∃ hp', hp.store i o xs = some hp' ∧ Ext gB h' hp' := by
  unfold H.store at e ⊢
  rw [x.ro]
  split at e
  · rename_i hro
    simp only [Option.bind_eq_some_iff] at e
    obtain ⟨l, hl, e⟩ := e
    split at e
    · rename_i hle
      simp only [Option.some.injEq] at e
      subst e
      rw [if_pos hro, x.has hl, Option.bind_some, if_pos hle]
      exact ⟨_, rfl, x.put _ (x.noB hl)⟩
    · simp at e
  · simp at e
theorem Ext.setRo {h hp : H} (x : Ext gB h hp) : Ext gB { h with ro := h.nx } { hp with ro := hp.nx } := ⟨x.nx, x.nx, x.get, x.off⟩
theorem Ext.setNx {h hp : H} (x : Ext gB h hp) (n : Nat) : Ext gB { h with nx := h.nx + n } { hp with nx := hp.nx + n } := ⟨by show hp.nx + n = h.nx + n; rw [x.nx], x.ro, x.get, x.off⟩

theorem lenCells_ext {h hp : H} (x : Ext gB h hp) {size : Nat} {v : AV} {r : Nat × List Sc} (e : lenCells h size v = some r) : lenCells hp size v = some r := by
  unfold lenCells at e ⊢
  split at e
  · exact e
  · split at e
    · rename_i hs
      simp only [Option.map_eq_some_iff] at e
      obtain ⟨l, hl, rfl⟩ := e
      simp only [if_pos hs, x.load hl, Option.map_some]
    · simp at e
  · simp at e

theorem abuiltin_ext {X : Env} {h hp h' : H} (x : Ext gB h hp) {id : Nat} (hid : gB id = none) {b : Builtin} {ts : List TypeId} {args : List AV} {v : AV} (ha : abuiltin X h id b ts args = some (v, h')) :
    ∃ hp', abuiltin X hp id b ts args = some (v, hp') ∧ Ext gB h' hp' := by
  unfold abuiltin at ha ⊢
  split at ha
  · split at ha
    · simp only [Option.some.injEq, Prod.mk.injEq] at ha; obtain ⟨rfl, rfl⟩ := ha; simp_all
    · simp only [Option.some.injEq, Prod.mk.injEq] at ha; obtain ⟨rfl, rfl⟩ := ha; simp_all
    · simp at ha
  · split at ha
    · rename_i hty
      try rw [hty]
      try dsimp only at ha ⊢
      split at ha
      · simp at ha
      · rename_i hc
        rw [if_neg hc]
        simp only [Option.bind_eq_some_iff, Prod.exists] at ha
        obtain ⟨n, new, hn, ha⟩ := ha
        rw [lenCells_ext x hn]
        simp only [Option.bind_some]
        split at ha
        · split at ha
          · rename_i h0
            simp only [Option.some.injEq, Prod.mk.injEq] at ha; obtain ⟨rfl, rfl⟩ := ha
            rw [if_pos h0]
            exact ⟨hp, rfl, x⟩
          · rename_i h0
            rw [if_neg h0]
            split at ha
            · rename_i h1
              simp only [Option.some.injEq, Prod.mk.injEq] at ha; obtain ⟨rfl, rfl⟩ := ha
              rw [if_pos h1]
              exact ⟨_, rfl, x.put _ hid⟩
            · simp at ha
        · split at ha
          · rename_i h0
            simp only [Option.some.injEq, Prod.mk.injEq] at ha; obtain ⟨rfl, rfl⟩ := ha
            rw [if_pos h0]
            exact ⟨hp, rfl, x⟩
          · rename_i h0
            rw [if_neg h0]
            split at ha
            · rename_i h1
              rw [if_pos h1]
              simp only [Option.bind_eq_some_iff] at ha
              obtain ⟨old, hold, ha⟩ := ha
              rw [x.load hold]
              simp only [Option.bind_some]
              split at ha
              · rename_i h2
                simp only [Option.some.injEq, Prod.mk.injEq] at ha; obtain ⟨rfl, rfl⟩ := ha
                rw [if_pos h2]
                exact ⟨_, rfl, x.put _ hid⟩
              · rename_i h2
                rw [if_neg h2, x.ro]
                split at ha
                · rename_i h3
                  simp only [Option.some.injEq, Prod.mk.injEq] at ha; obtain ⟨rfl, rfl⟩ := ha
                  rw [if_pos h3]
                  obtain ⟨bl, hb, _⟩ := H.load_get hold
                  exact ⟨_, rfl, (x.kill (x.noB hb)).put _ hid⟩
                · simp at ha
            · simp at ha
        · simp at ha
    · simp at ha
  · split at ha
    · rename_i hty
      try rw [hty]
      try dsimp only at ha ⊢
      split at ha
      · simp only [Option.bind_eq_some_iff, Prod.exists] at ha
        obtain ⟨n, new, hn, ha⟩ := ha
        rw [lenCells_ext x hn]
        simp only [Option.bind_some]
        split at ha
        · rename_i h1
          rw [if_pos h1]
          simp only [Option.map_eq_some_iff, Prod.mk.injEq] at ha
          obtain ⟨h2, hs, rfl, rfl⟩ := ha
          obtain ⟨hp', hs', x'⟩ := x.store hs
          rw [hs']
          exact ⟨hp', rfl, x'⟩
        · simp at ha
      · simp at ha
    · simp at ha
  · split at ha
    · rename_i hty
      simp only [Option.some.injEq, Prod.mk.injEq] at ha; obtain ⟨rfl, rfl⟩ := ha
      try rw [hty]
      exact ⟨hp, rfl, x⟩
    · rename_i hty
      try rw [hty]
      try dsimp only
      split at ha
      · rename_i h0
        simp only [Option.some.injEq, Prod.mk.injEq] at ha; obtain ⟨rfl, rfl⟩ := ha
        rw [if_pos h0]
        exact ⟨hp, rfl, x⟩
      · rename_i h0
        rw [if_neg h0]
        split at ha
        · rename_i h1
          rw [if_pos h1]
          simp only [Option.map_eq_some_iff, Prod.mk.injEq] at ha
          obtain ⟨h2, hs, rfl, rfl⟩ := ha
          obtain ⟨hp', hs', x'⟩ := x.store hs
          rw [hs']
          exact ⟨hp', rfl, x'⟩
        · simp at ha
    · simp at ha
  · simp only [Option.some.injEq, Prod.mk.injEq] at ha; obtain ⟨rfl, rfl⟩ := ha
    exact ⟨hp, rfl, x⟩
  · simp only [Option.some.injEq, Prod.mk.injEq] at ha; obtain ⟨rfl, rfl⟩ := ha
    exact ⟨hp, rfl, x⟩
  · simp at ha

/-- An operation. -/
theorem aop_ext {X : Env} {ev : Operand → AV} {h hp h' : H} (x : Ext gB h hp) {id : Nat} (hid : gB id = none) {op : Op} {v : AV} (ha : aop X ev h id op = some (v, h')) : ∃ hp', aop X ev hp id op = some (v, hp') ∧ Ext gB h' hp' := by
  cases op with
  | alloc t =>
    simp only [aop] at ha ⊢
    split at ha
    · simp at ha
    · rename_i h0
      simp only [Option.some.injEq, Prod.mk.injEq] at ha; obtain ⟨rfl, rfl⟩ := ha
      rw [if_neg h0]
      exact ⟨_, rfl, x.put _ hid⟩
  | box t y =>
    simp only [aop, Option.map_eq_some_iff, Prod.mk.injEq] at ha ⊢
    obtain ⟨l, hl, rfl, rfl⟩ := ha
    exact ⟨_, ⟨l, hl, rfl, rfl⟩, x.put _ hid⟩
  | makeSlice t l c =>
    simp only [aop] at ha ⊢
    split at ha
    · split at ha
      · rename_i h0 h1
        simp only [Option.some.injEq, Prod.mk.injEq] at ha; obtain ⟨rfl, rfl⟩ := ha
        simp only [*, if_true]
        exact ⟨_, rfl, x.put _ hid⟩
      · simp at ha
    · simp at ha
  | buildSlice t n ps =>
    simp only [aop] at ha ⊢
    split at ha
    · rename_i hty
      split at ha
      · rename_i h1
        simp only [Option.map_eq_some_iff, Prod.mk.injEq] at ha
        obtain ⟨l, hl, rfl, rfl⟩ := ha
        try rw [hty]
        try dsimp only
        rw [if_pos h1, hl]
        exact ⟨_, rfl, x.put _ hid⟩
      · simp at ha
    · simp at ha
  | store t y z =>
    simp only [aop] at ha ⊢
    split at ha
    · rename_i hy
      try rw [hy]
      try dsimp only
      split at ha
      · simp at ha
      · rename_i h0
        rw [if_neg h0]
        simp only [Option.bind_eq_some_iff] at ha
        obtain ⟨l, hl, ha⟩ := ha
        rw [hl, Option.bind_some]
        split at ha
        · rename_i h1
          rw [if_pos h1]
          simp only [Option.map_eq_some_iff, Prod.mk.injEq] at ha
          obtain ⟨h2, hs, rfl, rfl⟩ := ha
          obtain ⟨hp', hs', x'⟩ := x.store hs
          rw [hs']
          exact ⟨hp', rfl, x'⟩
        · simp at ha
    · simp at ha
  | call c =>
    obtain ⟨cal, args, tys⟩ := c
    cases cal with
    | builtin b => simp only [aop] at ha ⊢; exact abuiltin_ext x hid ha
    | _ => simp [aop] at ha
  | load t y =>
    simp only [aop] at ha ⊢
    split at ha
    · rename_i hy
      try rw [hy]
      try dsimp only
      split at ha
      · simp at ha
      · rename_i h0
        rw [if_neg h0]
        simp only [Option.bind_eq_some_iff, Option.map_eq_some_iff, Prod.mk.injEq] at ha
        obtain ⟨l, hl, y, hy, rfl, rfl⟩ := ha
        rw [x.load hl, Option.bind_some, hy]
        exact ⟨hp, rfl, x⟩
    · simp at ha
  | slice t y lo hi mx =>
    simp only [aop, Option.map_eq_some_iff, Prod.mk.injEq] at ha ⊢
    obtain ⟨s, hs, rfl, rfl⟩ := ha
    refine ⟨hp, ⟨s, ?_, rfl, rfl⟩, x⟩
    unfold aslice at hs ⊢
    split at hs
    · exact hs
    · exact hs
    · simp only [Option.bind_eq_some_iff, Prod.exists] at hs ⊢
      obtain ⟨l, hh, m, hb, hs⟩ := hs
      refine ⟨l, hh, m, hb, ?_⟩
      try dsimp only at hs ⊢
      split at hs
      · simp at hs
      · rename_i h0
        rw [if_neg h0]
        split at hs
        · rename_i y hl
          rw [x.load hl]
          exact hs
        · simp at hs
    · simp at hs
  | move y | assign y =>
    simp only [aop, Option.some.injEq, Prod.mk.injEq] at ha ⊢
    obtain ⟨rfl, rfl⟩ := ha
    exact ⟨hp, ⟨rfl, rfl⟩, x⟩
  | pick c y z =>
    simp only [aop] at ha ⊢
    split at ha
    · rename_i hc
      simp only [Option.some.injEq, Prod.mk.injEq] at ha
      obtain ⟨rfl, rfl⟩ := ha
      exact ⟨hp, by first | rw [hc] | rfl, x⟩
    · simp at ha
  | nilCheck y =>
    simp only [aop] at ha ⊢
    split at ha
    · rename_i hc
      simp only [Option.some.injEq, Prod.mk.injEq] at ha
      obtain ⟨rfl, rfl⟩ := ha
      exact ⟨hp, by first | rw [hc] | rfl, x⟩
    · rename_i hc
      simp only [Option.some.injEq, Prod.mk.injEq] at ha
      obtain ⟨rfl, rfl⟩ := ha
      exact ⟨hp, by first | rw [hc] | rfl, x⟩
    · simp at ha
  | binOp op t y z ty =>
    simp only [aop, Option.map_eq_some_iff, Prod.mk.injEq] at ha ⊢
    obtain ⟨s, hs, rfl, rfl⟩ := ha
    exact ⟨hp, ⟨s, hs, rfl, rfl⟩, x⟩
  | unOp op t y =>
    simp only [aop, Option.map_eq_some_iff, Prod.mk.injEq] at ha ⊢
    obtain ⟨s, hs, rfl, rfl⟩ := ha
    exact ⟨hp, ⟨s, hs, rfl, rfl⟩, x⟩
  | convert s d y =>
    simp only [aop] at ha ⊢
    split at ha
    · simp only [Option.some.injEq, Prod.mk.injEq] at ha
      obtain ⟨rfl, rfl⟩ := ha
      try simp only [*]
      exact ⟨hp, rfl, x⟩
    · simp at ha
  | makeFunc f first caps =>
    cases f with
    | func g =>
      simp only [aop] at ha ⊢
      split at ha
      · rename_i h0
        simp only [Option.map_eq_some_iff, Prod.mk.injEq] at ha
        obtain ⟨s, hs, rfl, rfl⟩ := ha
        rw [if_pos h0, hs]
        exact ⟨hp, rfl, x⟩
      · simp at ha
    | _ => simp [aop] at ha
  | fieldAddr t y f =>
    simp only [aop] at ha ⊢
    split at ha
    · rename_i h1 h2
      simp only [Option.bind_eq_some_iff, Prod.exists] at ha
      obtain ⟨off, ft, hf, ha⟩ := ha
      split at ha
      · rename_i h3
        simp only [Option.some.injEq, Prod.mk.injEq] at ha
        obtain ⟨rfl, rfl⟩ := ha
        try rw [h1, h2]
        try dsimp only
        rw [hf, Option.bind_some]
        try dsimp only
        rw [if_pos h3]
        exact ⟨hp, rfl, x⟩
      · simp at ha
    · simp at ha
  | field t y f =>
    simp only [aop] at ha ⊢
    split at ha
    · rename_i h1 h2
      simp only [Option.bind_eq_some_iff, Prod.exists] at ha
      obtain ⟨off, ft, hf, ha⟩ := ha
      split at ha
      · rename_i h3
        simp only [Option.map_eq_some_iff, Prod.mk.injEq] at ha
        obtain ⟨s, hs, rfl, rfl⟩ := ha
        try rw [h1, h2]
        try dsimp only
        rw [hf, Option.bind_some]
        try dsimp only
        rw [if_pos h3, hs]
        exact ⟨hp, rfl, x⟩
      · simp at ha
    · simp at ha
  | indexAddr t y i =>
    simp only [aop, Option.map_eq_some_iff, Prod.mk.injEq] at ha ⊢
    obtain ⟨s, hs, rfl, rfl⟩ := ha
    exact ⟨hp, ⟨s, hs, rfl, rfl⟩, x⟩
  | index t y i =>
    simp only [aop] at ha ⊢
    split at ha
    · rename_i h1 h2 h3
      split at ha
      · rename_i h4
        simp only [Option.map_eq_some_iff, Prod.mk.injEq] at ha
        obtain ⟨s, hs, rfl, rfl⟩ := ha
        try rw [h1, h2, h3]
        try dsimp only
        rw [if_pos h4, hs]
        exact ⟨hp, rfl, x⟩
      · simp at ha
    · simp at ha
  | extract y i =>
    simp only [aop] at ha ⊢
    split at ha
    · rename_i h1
      simp only [Option.bind_eq_some_iff, Option.map_eq_some_iff, Prod.mk.injEq] at ha
      obtain ⟨e, he, s, hs, rfl, rfl⟩ := ha
      try rw [h1]
      try dsimp only
      rw [he, Option.bind_some, hs]
      exact ⟨hp, rfl, x⟩
    · simp at ha
  | build t parts =>
    simp only [aop] at ha ⊢
    split at ha
    · rename_i h1
      split at ha
      · rename_i h2
        simp only [Option.map_eq_some_iff, Prod.mk.injEq] at ha
        obtain ⟨s, hs, rfl, rfl⟩ := ha
        try rw [h1]
        try dsimp only
        rw [if_pos h2, hs]
        exact ⟨hp, rfl, x⟩
      · simp at ha
    · simp at ha
  | _ => simp [aop] at ha

end
end Go.AM
end

section
/- More blocks, and more fuel: regions, calls, whole bodies. No program here. -/
set_option linter.unusedSimpArgs false
set_option linter.unusedVariables false
set_option linter.unnecessarySimpa false
namespace Go.AM
open Go

theorem H.store_nx {h h' : H} {i o : Nat} {xs : List Sc} (hs : h.store i o xs = some h') : h'.nx = h.nx ∧ h'.ro = h.ro := by
  unfold H.store at hs
  split at hs
  · rename_i hro
    simp only [Option.bind_eq_some_iff] at hs
    obtain ⟨l, hl, hs⟩ := hs
    split at hs
    · simp only [Option.some.injEq] at hs
      subst hs
      exact ⟨rfl, rfl⟩
    · simp at hs
  · simp at hs

theorem abuiltin_nx {X : Env} {h h' : H} {id : Nat} {b : Builtin} {ts : List TypeId} {args : List AV} {v : AV} (ha : abuiltin X h id b ts args = some (v, h')) : h'.nx = h.nx ∧ h'.ro = h.ro := by
  unfold abuiltin at ha
  split at ha
  · split at ha <;> simp at ha <;> (rw [← ha.2]; exact ⟨rfl, rfl⟩)
  · split at ha
    · dsimp only at ha
      split at ha
      · simp at ha
      · simp only [Option.bind_eq_some_iff, Prod.exists] at ha
        obtain ⟨n, new, _, ha⟩ := ha
        split at ha
        · split at ha
          · simp at ha; (rw [← ha.2]; exact ⟨rfl, rfl⟩)
          · split at ha
            · simp at ha; rw [← ha.2]; exact ⟨rfl, rfl⟩
            · simp at ha
        · split at ha
          · simp at ha; (rw [← ha.2]; exact ⟨rfl, rfl⟩)
          · split at ha
            · simp only [Option.bind_eq_some_iff] at ha
              obtain ⟨old, _, ha⟩ := ha
              split at ha
              · simp at ha; rw [← ha.2]; exact ⟨rfl, rfl⟩
              · split at ha
                · simp at ha; rw [← ha.2]; exact ⟨rfl, rfl⟩
                · simp at ha
            · simp at ha
        · simp at ha
    · simp at ha
  · split at ha
    · dsimp only at ha
      split at ha
      · simp only [Option.bind_eq_some_iff, Prod.exists] at ha
        obtain ⟨n, new, _, ha⟩ := ha
        split at ha
        · simp only [Option.map_eq_some_iff, Prod.mk.injEq] at ha
          obtain ⟨h1, hs, _, rfl⟩ := ha
          exact H.store_nx hs
        · simp at ha
      · simp at ha
    · simp at ha
  · split at ha
    · simp at ha; (rw [← ha.2]; exact ⟨rfl, rfl⟩)
    · split at ha
      · simp at ha; (rw [← ha.2]; exact ⟨rfl, rfl⟩)
      · split at ha
        · simp only [Option.map_eq_some_iff, Prod.mk.injEq] at ha
          obtain ⟨h1, hs, _, rfl⟩ := ha
          exact H.store_nx hs
        · simp at ha
    · simp at ha
  · simp at ha; (rw [← ha.2]; exact ⟨rfl, rfl⟩)
  · simp at ha; (rw [← ha.2]; exact ⟨rfl, rfl⟩)
  · simp at ha

theorem aop_nx {X : Env} {ev : Operand → AV} {h h' : H} {id : Nat} {op : Op} {v : AV} (ha : aop X ev h id op = some (v, h')) : h'.nx = h.nx ∧ h'.ro = h.ro := by
  cases op with
  | alloc t => simp only [aop] at ha; split at ha <;> simp at ha; rw [← ha.2]; exact ⟨rfl, rfl⟩
  | box t x => simp only [aop, Option.map_eq_some_iff, Prod.mk.injEq] at ha; obtain ⟨l, _, _, rfl⟩ := ha; exact ⟨rfl, rfl⟩
  | makeSlice t l c =>
    simp only [aop] at ha
    split at ha
    · split at ha <;> simp at ha
      rw [← ha.2]; exact ⟨rfl, rfl⟩
    · simp at ha
  | buildSlice t n ps =>
    simp only [aop] at ha
    split at ha
    · split at ha
      · simp only [Option.map_eq_some_iff, Prod.mk.injEq] at ha
        obtain ⟨l, _, _, rfl⟩ := ha; exact ⟨rfl, rfl⟩
      · simp at ha
    · simp at ha
  | store t x y =>
    simp only [aop] at ha
    split at ha
    · split at ha
      · simp at ha
      · simp only [Option.bind_eq_some_iff] at ha
        obtain ⟨l, _, ha⟩ := ha
        split at ha
        · simp only [Option.map_eq_some_iff, Prod.mk.injEq] at ha
          obtain ⟨h1, hs, _, rfl⟩ := ha
          exact H.store_nx hs
        · simp at ha
    · simp at ha
  | call c =>
    obtain ⟨cal, args, tys⟩ := c
    cases cal with
    | builtin b => simp only [aop] at ha; exact abuiltin_nx ha
    | _ => simp [aop] at ha
  | move x => simp [aop] at ha; (rw [← ha.2]; exact ⟨rfl, rfl⟩)
  | assign x => simp [aop] at ha; (rw [← ha.2]; exact ⟨rfl, rfl⟩)
  | pick c x y => simp only [aop] at ha; split at ha <;> simp at ha; (rw [← ha.2]; exact ⟨rfl, rfl⟩)
  | load t x =>
    simp only [aop] at ha
    split at ha
    · split at ha
      · simp at ha
      · simp only [Option.bind_eq_some_iff, Option.map_eq_some_iff, Prod.mk.injEq] at ha
        obtain ⟨_, _, _, _, _, rfl⟩ := ha; exact ⟨rfl, rfl⟩
    · simp at ha
  | nilCheck x => simp only [aop] at ha; split at ha <;> simp at ha <;> (rw [← ha.2]; exact ⟨rfl, rfl⟩)
  | binOp op t x y ty => simp only [aop, Option.map_eq_some_iff, Prod.mk.injEq] at ha; obtain ⟨_, _, _, rfl⟩ := ha; exact ⟨rfl, rfl⟩
  | unOp op t x => simp only [aop, Option.map_eq_some_iff, Prod.mk.injEq] at ha; obtain ⟨_, _, _, rfl⟩ := ha; exact ⟨rfl, rfl⟩
  | convert s d x => simp only [aop] at ha; split at ha <;> simp at ha; (rw [← ha.2]; exact ⟨rfl, rfl⟩)
  | makeFunc f first caps =>
    cases f with
    | func g =>
      simp only [aop] at ha
      split at ha
      · simp only [Option.map_eq_some_iff, Prod.mk.injEq] at ha; obtain ⟨_, _, _, rfl⟩ := ha; exact ⟨rfl, rfl⟩
      · simp at ha
    | _ => simp [aop] at ha
  | slice t x lo hi mx => simp only [aop, Option.map_eq_some_iff, Prod.mk.injEq] at ha; obtain ⟨_, _, _, rfl⟩ := ha; exact ⟨rfl, rfl⟩
  | fieldAddr t x f =>
    simp only [aop] at ha
    split at ha
    · simp only [Option.bind_eq_some_iff, Prod.exists] at ha
      obtain ⟨_, _, _, ha⟩ := ha
      split at ha <;> simp at ha
      (rw [← ha.2]; exact ⟨rfl, rfl⟩)
    · simp at ha
  | field t x f =>
    simp only [aop] at ha
    split at ha
    · simp only [Option.bind_eq_some_iff, Prod.exists] at ha
      obtain ⟨_, _, _, ha⟩ := ha
      split at ha
      · simp only [Option.map_eq_some_iff, Prod.mk.injEq] at ha; obtain ⟨_, _, _, rfl⟩ := ha; exact ⟨rfl, rfl⟩
      · simp at ha
    · simp at ha
  | indexAddr t x i => simp only [aop, Option.map_eq_some_iff, Prod.mk.injEq] at ha; obtain ⟨_, _, _, rfl⟩ := ha; exact ⟨rfl, rfl⟩
  | index t x i =>
    simp only [aop] at ha
    split at ha
    · split at ha
      · simp only [Option.map_eq_some_iff, Prod.mk.injEq] at ha; obtain ⟨_, _, _, rfl⟩ := ha; exact ⟨rfl, rfl⟩
      · simp at ha
    · simp at ha
  | extract x i =>
    simp only [aop] at ha
    split at ha
    · simp only [Option.bind_eq_some_iff, Option.map_eq_some_iff, Prod.mk.injEq] at ha
      obtain ⟨_, _, _, _, _, rfl⟩ := ha; exact ⟨rfl, rfl⟩
    · simp at ha
  | build t parts =>
    simp only [aop] at ha
    split at ha
    · split at ha
      · simp only [Option.map_eq_some_iff, Prod.mk.injEq] at ha; obtain ⟨_, _, _, rfl⟩ := ha; exact ⟨rfl, rfl⟩
      · simp at ha
    · simp at ha
  | _ => simp [aop] at ha


/-- One way of calling comes to no less than another one, and leaves further blocks alone. -/
def CFle (cf cf' : CallF) : Prop := ∀ f args h v h', cf f args h = some (v, h') → h.nx ≤ h'.nx ∧ ∀ gB hp, Ext gB h hp → (∀ i l, gB i = some l → i < h.nx) → ∃ hp', cf' f args hp = some (v, hp') ∧ Ext gB h' hp'

section
variable {X : Env} {cf cf' : CallF} {nt c : Nat} {ops : List Oper}

theorem below_none {gB : G} {c : Nat} (hB : ∀ i l, gB i = some l → i < c) {i : Nat} (hi : c ≤ i) : gB i = none := by
  cases h : gB i with
  | none => rfl
  | some l => have := hB i l h; omega

theorem stepA_ext (hcf : CFle cf cf') {i : Nat} {o : Oper} {fr fr' : Fr} {h h' : H} (hs : stepA X cf nt c ops i o fr h = some (fr', h')) :
    h.nx ≤ h'.nx ∧ ∀ gB hp, Ext gB h hp → (∀ i l, gB i = some l → i < c) → c ≤ h.nx → ∃ hp', stepA X cf' nt c ops i o fr hp = some (fr', hp') ∧ Ext gB h' hp' := by
  unfold stepA at hs ⊢
  simp only [Option.bind_eq_some_iff] at hs
  obtain ⟨b, hb, hs⟩ := hs
  simp only [hb, Option.bind_some]
  cases b with
  | false =>
    simp only [Bool.false_eq_true, if_false, Option.map_eq_some_iff, Prod.mk.injEq] at hs ⊢
    obtain ⟨f1, hp, rfl, rfl⟩ := hs
    exact ⟨Nat.le_refl _, fun gB hq x _ _ => ⟨hq, ⟨f1, hp, rfl, rfl⟩, x⟩⟩
  | true =>
    simp only [if_true] at hs ⊢
    split at hs
    · rename_i hc
      simp only [hc, if_true]
      simp only [Option.bind_eq_some_iff, Option.map_eq_some_iff, Prod.exists, Prod.mk.injEq] at hs
      obtain ⟨g, args, hcal, v, h1, hcall, f1, hp, rfl, rfl⟩ := hs
      obtain ⟨n1, n2⟩ := hcf _ _ _ _ _ hcall
      refine ⟨n1, fun gB hq x hB hc' => ?_⟩
      obtain ⟨hq', e, x'⟩ := n2 gB hq x fun i l hl => by have := hB i l hl; omega
      refine ⟨hq', ?_, x'⟩
      rw [hcal, Option.bind_some]
      dsimp only
      rw [e, Option.bind_some]
      dsimp only
      rw [hp]; rfl
    · rename_i hc
      simp only [if_neg hc]
      simp only [Option.bind_eq_some_iff, Option.map_eq_some_iff, Prod.exists, Prod.mk.injEq] at hs
      obtain ⟨v, h1, hop, f1, hp, rfl, rfl⟩ := hs
      refine ⟨by rw [(aop_nx hop).1]; exact Nat.le_refl _, fun gB hq x hB hc' => ?_⟩
      obtain ⟨hq', e, x'⟩ := aop_ext x (below_none hB (by omega)) hop
      refine ⟨hq', ?_, x'⟩
      rw [e, Option.bind_some]
      dsimp only
      rw [hp]; rfl

theorem seqA_ext (hcf : CFle cf cf') : ∀ (rest : List Oper) (i : Nat) {fr fr' : Fr} {h h' : H}, seqA X cf nt c ops i rest fr h = some (fr', h') →
    h.nx ≤ h'.nx ∧ ∀ gB hp, Ext gB h hp → (∀ i l, gB i = some l → i < c) → c ≤ h.nx → ∃ hp', seqA X cf' nt c ops i rest fr hp = some (fr', hp') ∧ Ext gB h' hp'
  | [], i, fr, fr', h, h', hs => by
    simp only [seqA, Option.some.injEq, Prod.mk.injEq] at hs ⊢
    obtain ⟨rfl, rfl⟩ := hs
    exact ⟨Nat.le_refl _, fun gB hp x _ _ => ⟨hp, ⟨rfl, rfl⟩, x⟩⟩
  | o :: rest, i, fr, fr', h, h', hs => by
    simp only [seqA, Option.bind_eq_some_iff, Prod.exists] at hs
    obtain ⟨f1, h1, hs1, hs⟩ := hs
    obtain ⟨n1, n2⟩ := stepA_ext hcf hs1
    obtain ⟨m1, m2⟩ := seqA_ext hcf rest (i + 1) hs
    refine ⟨Nat.le_trans n1 m1, fun gB hp x hB hc => ?_⟩
    obtain ⟨hp1, e1, x1⟩ := n2 gB hp x hB hc
    obtain ⟨hp2, e2, x2⟩ := m2 gB hp1 x1 hB (Nat.le_trans hc n1)
    refine ⟨hp2, ?_, x2⟩
    simp only [seqA]
    rw [e1, Option.bind_some]
    exact e2

theorem Ext.mask {gB : G} {h hp : H} (hB : ∀ i l, gB i = some l → i < c) : ∀ (l : List Nat) {h hp : H}, Ext gB h hp → Ext gB (maskH h c l) (maskH hp c l)
  | [], _, _, x => x
  | j :: l, _, _, x => Ext.mask (h := h) (hp := hp) hB l (x.kill (below_none hB (by omega)))
theorem Ext.unmask {gB : G} {h hp : H} (hB : ∀ i l, gB i = some l → i < c) (x : Ext gB h hp) : ∀ (l : List Nat) {h' hp' : H}, Ext gB h' hp' → Ext gB (unmaskH h c l h') (unmaskH hp c l hp')
  | [], _, _, y => y
  | j :: l, h', hp', y => by
    rw [unmaskH, unmaskH]
    have hn : gB (c + j) = none := below_none hB (by omega)
    have e : hp.get (c + j) = h.get (c + j) := by rw [x.get]; unfold G.or; cases h.get (c + j) with | none => exact hn | some _ => rfl
    rw [e]
    refine Ext.unmask hB x l ?_
    cases h.get (c + j) with
    | none => exact y.kill hn
    | some z => exact y.put z hn

theorem sameLoads_ext {gB : G} {h hp : H} (x : Ext gB h hp) {b : Nat} : ∀ {sp : List Lo}, sameLoads b h sp = true → sameLoads b hp sp = true
  | [], _ => rfl
  | s :: sp, e => by
    simp only [sameLoads, allB, Bool.and_eq_true, Bool.or_eq_true, decide_eq_true_eq] at e ⊢
    exact ⟨e.1.imp id fun h => x.load h, sameLoads_ext x (sp := sp) e.2⟩

def SnR (gB : G) (s s' : Sn) : Prop := s'.k = s.k ∧ Ext gB s.h s'.h
theorem sameBefore_ext {gB : G} {bi b o : Nat} {l : List Sc} : ∀ {ss ss' : List Sn}, LR (SnR gB) ss ss' → sameBefore bi b o l ss = true → sameBefore bi b o l ss' = true
  | [], [], _, _ => rfl
  | s :: ss, s' :: ss', h, e => by
    simp only [sameBefore, allB, Bool.and_eq_true, Bool.or_eq_true, decide_eq_true_eq] at e ⊢
    refine ⟨?_, sameBefore_ext (ss := ss) h.2 e.2⟩
    rw [h.1.1]
    exact e.1.imp id fun hl => h.1.2.load hl
  | [], _ :: _, h, _ => h.elim
  | _ :: _, [], h, _ => h.elim

theorem drawStep_ext (hcf : CFle cf cf') {bs : List Nat} {i : Nat} {o : Oper} {fr fr' : Fr} {h h' : H} {sp sp' : List Lo} {ss ss' : List Sn} (hs : drawStep X cf nt c ops bs i o fr h sp ss = some (fr', h', sp', ss')) :
    h.nx ≤ h'.nx ∧ ∀ gB hp sq, Ext gB h hp → LR (SnR gB) ss sq → (∀ i l, gB i = some l → i < c) → c ≤ h.nx → ∃ hp' sq', drawStep X cf' nt c ops bs i o fr hp sp sq = some (fr', hp', sp', sq') ∧ Ext gB h' hp' ∧ LR (SnR gB) ss' sq' := by
  unfold drawStep at hs ⊢
  simp only [Option.bind_eq_some_iff] at hs
  obtain ⟨b, hb, hs⟩ := hs
  simp only [hb, Option.bind_some]
  cases b with
  | false =>
    simp only [Bool.false_eq_true, if_false, Option.map_eq_some_iff, Prod.mk.injEq] at hs ⊢
    obtain ⟨f1, hp, rfl, rfl, rfl, rfl⟩ := hs
    exact ⟨Nat.le_refl _, fun gB hq sq x y _ _ => ⟨hq, sq, ⟨f1, hp, rfl, rfl, rfl, rfl⟩, x, y⟩⟩
  | true =>
    simp only [if_true] at hs ⊢
    by_cases hw : isW X o.op = true
    · simp only [hw, if_true] at hs ⊢
      simp only [Option.bind_eq_some_iff, Prod.exists] at hs
      obtain ⟨v, h1, hop, hs⟩ := hs
      split at hs
      · rename_i hsl
        simp only [Option.map_eq_some_iff, Prod.mk.injEq] at hs
        obtain ⟨f1, hp, rfl, rfl, rfl, rfl⟩ := hs
        obtain ⟨m1, m2⟩ := maskH_nx c (maskOf ops (bs.getD i 0)) h
        obtain ⟨k1, k2⟩ := unmaskH_nx h c (maskOf ops (bs.getD i 0)) h1
        have key : (maskH h c (maskOf ops (bs.getD i 0))).nx ≤ h1.nx ∧ ∀ gB hq, Ext gB (maskH h c (maskOf ops (bs.getD i 0))) hq → (∀ i l, gB i = some l → i < c) → c ≤ h.nx →
            ∃ hq', (if isCall o.op = true then (callee fr.ev o.op).bind fun (g, args) => cf' g args hq else aop X fr.ev hq (c + i) o.op) = some (v, hq') ∧ Ext gB h1 hq' := by
          split at hop
          · rename_i hc
            simp only [Option.bind_eq_some_iff, Prod.exists] at hop
            obtain ⟨g, args, hcal, hcall⟩ := hop
            obtain ⟨n1, n2⟩ := hcf _ _ _ _ _ hcall
            refine ⟨n1, fun gB hq x hB hc' => ?_⟩
            obtain ⟨hq', e, x'⟩ := n2 gB hq x fun i l hl => by have := hB i l hl; omega
            exact ⟨hq', by rw [if_pos hc, hcal, Option.bind_some]; exact e, x'⟩
          · rename_i hc
            refine ⟨by rw [(aop_nx hop).1]; exact Nat.le_refl _, fun gB hq x hB hc' => ?_⟩
            obtain ⟨hq', e, x'⟩ := aop_ext x (below_none hB (by omega)) hop
            exact ⟨hq', by rw [if_neg hc]; exact e, x'⟩
        refine ⟨by rw [k1]; omega, fun gB hq sq x y hB hc => ?_⟩
        obtain ⟨hq', e, x'⟩ := key.2 gB _ (Ext.mask (h := h) (hp := hq) hB (maskOf ops (bs.getD i 0)) x) hB hc
        have xu := Ext.unmask hB x (maskOf ops (bs.getD i 0)) x'
        refine ⟨_, ⟨i, hq⟩ :: sq, ?_, xu, ⟨⟨rfl, x⟩, y⟩⟩
        rw [e, Option.bind_some]
        dsimp only
        rw [if_pos (sameLoads_ext xu hsl), hp]; rfl
      · simp at hs
    · simp only [hw, Bool.false_eq_true, if_false] at hs ⊢
      by_cases hc : isCall o.op = true
      · simp only [hc, if_true] at hs ⊢
        simp only [Option.bind_eq_some_iff, Prod.exists] at hs
        obtain ⟨g, args, hcal, v, h1, hcall, hs⟩ := hs
        split at hs
        · rename_i hflat
          simp only [Option.map_eq_some_iff, Prod.mk.injEq] at hs
          obtain ⟨f1, hp, rfl, rfl, rfl, rfl⟩ := hs
          obtain ⟨n1, n2⟩ := hcf _ _ _ _ _ hcall
          obtain ⟨m1, m2⟩ := maskH_nx c (maskOf ops (bs.getD i 0)) h
          refine ⟨Nat.le_refl _, fun gB hq sq x y hB hc' => ?_⟩
          obtain ⟨hq', e, x'⟩ := n2 gB _ (Ext.mask (h := h) (hp := hq) hB (maskOf ops (bs.getD i 0)) x).setRo fun i l hl => by
            have := hB i l hl
            show i < (maskH h c (maskOf ops (bs.getD _ 0))).nx
            omega
          refine ⟨hq, sq, ?_, x, y⟩
          rw [hcal, Option.bind_some]
          dsimp only
          rw [e, Option.bind_some]
          dsimp only
          rw [if_pos hflat, hp]; rfl
        · simp at hs
      · simp only [hc, Bool.false_eq_true, if_false] at hs ⊢
        by_cases hN : isN o.op = true
        · simp only [hN, if_true] at hs ⊢
          simp only [Option.bind_eq_some_iff, Option.map_eq_some_iff, Prod.exists, Prod.mk.injEq] at hs
          obtain ⟨v, he, hop, l, hl, f1, hp, rfl, rfl, rfl, rfl⟩ := hs
          refine ⟨Nat.le_refl _, fun gB hq sq x y hB hc' => ⟨hq.put (c + i) l, sq, ?_, x.put l (below_none hB (by omega)), y⟩⟩
          rw [hop, Option.bind_some]
          dsimp only
          rw [hl, Option.bind_some, hp]; rfl
        · simp only [hN, Bool.false_eq_true, if_false] at hs ⊢
          split at hs
          · rename_i t y' hopx
            split at hs
            · rename_i b' off hev
              split at hs
              · simp at hs
              · rename_i hty
                split at hs
                · rename_i hcond
                  simp only [Option.bind_eq_some_iff] at hs
                  obtain ⟨l, hl, hs⟩ := hs
                  split at hs
                  · rename_i hsb
                    simp only [Option.bind_eq_some_iff, Option.map_eq_some_iff, Prod.mk.injEq] at hs
                    obtain ⟨v, hv, f1, hp, rfl, rfl, rfl, rfl⟩ := hs
                    refine ⟨Nat.le_refl _, fun gB hq sq x y hB hc' => ⟨hq, sq, ?_, x, y⟩⟩
                    simp only [hev, if_neg hty, if_pos hcond, x.load hl, Option.bind_some, sameBefore_ext y hsb, if_true, hv, hp, Option.map_some]
                  · simp at hs
                · simp at hs
            · simp at hs
          · rename_i hno
            simp only [Option.bind_eq_some_iff, Option.map_eq_some_iff, Prod.exists, Prod.mk.injEq] at hs
            obtain ⟨v, he, hop, f1, hp, rfl, rfl, rfl, rfl⟩ := hs
            refine ⟨Nat.le_refl _, fun gB hq sq x y hB hc' => ⟨hq, sq, ?_, x, y⟩⟩
            rw [hop, Option.bind_some]
            dsimp only
            rw [hp]; rfl

theorem drawA_ext (hcf : CFle cf cf') {bs : List Nat} : ∀ (rest : List Oper) (i : Nat) {fr fr' : Fr} {h h' : H} {sp : List Lo} {ss : List Sn}, drawA X cf nt c ops bs i rest fr h sp ss = some (fr', h') →
    h.nx ≤ h'.nx ∧ ∀ gB hp sq, Ext gB h hp → LR (SnR gB) ss sq → (∀ i l, gB i = some l → i < c) → c ≤ h.nx → ∃ hp', drawA X cf' nt c ops bs i rest fr hp sp sq = some (fr', hp') ∧ Ext gB h' hp'
  | [], i, fr, fr', h, h', sp, ss, hs => by
    simp only [drawA, Option.some.injEq, Prod.mk.injEq] at hs ⊢
    obtain ⟨rfl, rfl⟩ := hs
    exact ⟨Nat.le_refl _, fun gB hp sq x _ _ _ => ⟨hp, ⟨rfl, rfl⟩, x⟩⟩
  | o :: rest, i, fr, fr', h, h', sp, ss, hs => by
    simp only [drawA, Option.bind_eq_some_iff, Prod.exists] at hs
    obtain ⟨f1, h1, sp1, ss1, hs1, hs⟩ := hs
    obtain ⟨n1, n2⟩ := drawStep_ext hcf hs1
    obtain ⟨m1, m2⟩ := drawA_ext hcf rest (i + 1) hs
    refine ⟨Nat.le_trans n1 m1, fun gB hp sq x y hB hc => ?_⟩
    obtain ⟨hp1, sq1, e1, x1, y1⟩ := n2 gB hp sq x y hB hc
    obtain ⟨hp2, e2, x2⟩ := m2 gB hp1 sq1 x1 y1 hB (Nat.le_trans hc n1)
    refine ⟨hp2, ?_, x2⟩
    simp only [drawA]
    rw [e1, Option.bind_some]
    exact e2

theorem regionA_ext (hcf : CFle cf cf') {ops : Array Oper} {draw : Bool} {fr fr' : Fr} {h h' : H} (hs : regionA X cf nt ops draw fr h = some (fr', h')) :
    h.nx ≤ h'.nx ∧ ∀ gB hp, Ext gB h hp → (∀ i l, gB i = some l → i < h.nx) → ∃ hp', regionA X cf' nt ops draw fr hp = some (fr', hp') ∧ Ext gB h' hp' := by
  unfold regionA at hs ⊢
  dsimp only at hs ⊢
  split at hs
  · rename_i hd
    simp only [hd, if_true]
    split at hs
    · rename_i hok
      obtain ⟨n1, n2⟩ := drawA_ext hcf ops.toList 0 hs
      have n1' : h.nx + ops.toList.length ≤ h'.nx := n1
      refine ⟨by omega, fun gB hp x hB => ?_⟩
      obtain ⟨hp', e, x'⟩ := n2 gB _ [] (x.setNx ops.toList.length) trivial hB (Nat.le_add_right _ _)
      exact ⟨hp', by simp only [hok, if_true, x.nx] at e ⊢; exact e, x'⟩
    · simp at hs
  · rename_i hd
    obtain ⟨n1, n2⟩ := seqA_ext hcf ops.toList 0 hs
    have n1' : h.nx + ops.toList.length ≤ h'.nx := n1
    refine ⟨by omega, fun gB hp x hB => ?_⟩
    obtain ⟨hp', e, x'⟩ := n2 gB _ (x.setNx ops.toList.length) hB (Nat.le_add_right _ _)
    exact ⟨hp', by simp only [hd, Bool.false_eq_true, if_false, x.nx] at e ⊢; exact e, x'⟩

theorem resultA_ext {gB : G} {h hp : H} (x : Ext gB h hp) {fr : Fr} {r : ResultVar} {e : Bool × List Sc} (hr : resultA X fr h r = some e) : resultA X fr hp r = some e := by
  cases r with
  | tmp t => exact hr
  | cell a t =>
    simp only [resultA] at hr ⊢
    split at hr
    · rename_i hev
      try rw [hev]
      try dsimp only
      split at hr
      · simp at hr
      · rename_i hty
        simp only [Option.bind_eq_some_iff] at hr
        obtain ⟨l, hl, y, hy, hr⟩ := hr
        rw [if_neg hty, x.load hl, Option.bind_some, hy, Option.bind_some]
        exact hr
    · simp at hr

theorem allSome_of {α β : Type} {f g : α → Option β} : ∀ {l : List α} {r : List β}, (∀ x ∈ l, ∀ y, f x = some y → g x = some y) → allSome (l.map f) = some r → allSome (l.map g) = some r
  | [], r, _, h => h
  | x :: l, r, hm, h => by
    simp only [List.map_cons, allSome, Option.bind_eq_some_iff, Option.map_eq_some_iff] at h ⊢
    obtain ⟨y, hy, r', hr, rfl⟩ := h
    exact ⟨y, hm x (by simp) y hy, r', allSome_of (fun z hz => hm z (by simp [hz])) hr, rfl⟩

theorem resultsA_ext {gB : G} {h hp : H} (x : Ext gB h hp) {fn : Func} {fr : Fr} {v : AV} (hr : resultsA X fn fr h = some v) : resultsA X fn fr hp = some v := by
  unfold resultsA at hr ⊢
  simp only [Option.bind_eq_some_iff] at hr ⊢
  obtain ⟨l, hl, hr⟩ := hr
  exact ⟨l, allSome_of (fun r _ y hy => resultA_ext x hy) hl, hr⟩

def RunLe (X : Env) (n m : Nat) : Prop := ∀ nt c fr h e fr' h', runA X n nt c fr h = some (e, fr', h') → h.nx ≤ h'.nx ∧ ∀ gB hp, Ext gB h hp → (∀ i l, gB i = some l → i < h.nx) → ∃ hp', runA X m nt c fr hp = some (e, fr', hp') ∧ Ext gB h' hp'

theorem callA_le {n m : Nat} (hr : RunLe X n m) : CFle (callA X (runA X n)) (callA X (runA X m)) := by
  intro f args h v h' hc
  unfold callA at hc ⊢
  split at hc
  · rename_i g hg
    simp only [Option.bind_eq_some_iff] at hc
    obtain ⟨v0, hv0, hc⟩ := hc
    split at hc
    · rename_i hflat
      simp only [Option.some.injEq, Prod.mk.injEq] at hc
      obtain ⟨rfl, rfl⟩ := hc
      exact ⟨Nat.le_refl _, fun gB hp x _ => ⟨hp, by simp only [hg, hv0, Option.bind_some, hflat, if_true], x⟩⟩
    · simp at hc
  · rename_i hg
    simp only [Option.bind_eq_some_iff] at hc
    obtain ⟨fn, hfn, c, hbody, hc⟩ := hc
    split at hc
    · rename_i hlen
      simp only [Option.bind_eq_some_iff, Prod.exists] at hc
      obtain ⟨e, fr, h1, hrun, hc⟩ := hc
      obtain ⟨n1, n2⟩ := hr _ _ _ _ _ _ _ hrun
      have hres : (e = .norm ∨ e = .ret) ∧ resultsA X fn fr h1 = some v ∧ h1 = h' := by
        cases e with
        | norm => simp only [Option.map_eq_some_iff, Prod.mk.injEq] at hc; obtain ⟨_, h1, rfl, rfl⟩ := hc; exact ⟨.inl rfl, h1, rfl⟩
        | ret => simp only [Option.map_eq_some_iff, Prod.mk.injEq] at hc; obtain ⟨_, h1, rfl, rfl⟩ := hc; exact ⟨.inr rfl, h1, rfl⟩
        | exit id => simp at hc
      obtain ⟨he, hres, rfl⟩ := hres
      refine ⟨n1, fun gB hp x hB => ?_⟩
      obtain ⟨hp', er, x'⟩ := n2 gB hp x hB
      refine ⟨hp', ?_, x'⟩
      simp only [hg, hfn, Option.bind_some, hbody, if_pos hlen, er]
      rcases he with rfl | rfl <;> simp only [resultsA_ext x' hres, Option.map_some]
    · simp at hc

theorem runA_le : ∀ n m, n ≤ m → RunLe X n m := by
  intro n
  induction n with
  | zero => intro m _ nt c fr h e fr' h' hr; simp [runA] at hr
  | succ n ih =>
    intro m hm
    obtain ⟨m, rfl⟩ : ∃ k, m = k + 1 := ⟨m - 1, by omega⟩
    have ih := ih m (by omega)
    have hcf := callA_le ih
    intro nt c fr h e fr' h' hr
    -- two runs, one behind the other
    have two : ∀ {x y : Code} {f1 h1 e f2 h2}, runA X n nt x fr h = some (.norm, f1, h1) → runA X n nt y f1 h1 = some (e, f2, h2) → h.nx ≤ h2.nx ∧ ∀ gB hp, Ext gB h hp → (∀ i l, gB i = some l → i < h.nx) →
        ∃ hp1 hp2, runA X m nt x fr hp = some (.norm, f1, hp1) ∧ runA X m nt y f1 hp1 = some (e, f2, hp2) ∧ Ext gB h2 hp2 := fun {x y f1 h1 e f2 h2} hx hy => by
      obtain ⟨n1, n2⟩ := ih _ _ _ _ _ _ _ hx
      obtain ⟨m1, m2⟩ := ih _ _ _ _ _ _ _ hy
      refine ⟨Nat.le_trans n1 m1, fun gB hp x hB => ?_⟩
      obtain ⟨hp1, e1, x1⟩ := n2 gB hp x hB
      obtain ⟨hp2, e2, x2⟩ := m2 gB hp1 x1 fun i l hl => Nat.lt_of_lt_of_le (hB i l hl) n1
      exact ⟨hp1, hp2, e1, e2, x2⟩
    cases c with
    | skip | label | exit | ret =>
      simp only [runA, Option.some.injEq, Prod.mk.injEq] at hr ⊢
      obtain ⟨rfl, rfl, rfl⟩ := hr
      exact ⟨Nat.le_refl _, fun gB hp x _ => ⟨hp, ⟨rfl, rfl, rfl⟩, x⟩⟩
    | region id ops draw =>
      simp only [runA, Option.map_eq_some_iff, Prod.mk.injEq, Prod.exists] at hr ⊢
      obtain ⟨f1, h1, hreg, rfl, rfl, rfl⟩ := hr
      obtain ⟨n1, n2⟩ := regionA_ext hcf hreg
      refine ⟨n1, fun gB hp x hB => ?_⟩
      obtain ⟨hp', e, x'⟩ := n2 gB hp x hB
      exact ⟨hp', ⟨f1, hp', e, rfl, rfl, rfl⟩, x'⟩
    | seq x y =>
      simp only [runA] at hr ⊢
      split at hr
      · rename_i f1 h1 hx
        obtain ⟨n1, n2⟩ := two hx hr
        refine ⟨n1, fun gB hp x hB => ?_⟩
        obtain ⟨hp1, hp2, e1, e2, x2⟩ := n2 gB hp x hB
        exact ⟨hp2, by rw [e1]; exact e2, x2⟩
      · rename_i hne
        obtain ⟨n1, n2⟩ := ih _ _ _ _ _ _ _ hr
        refine ⟨n1, fun gB hp x hB => ?_⟩
        obtain ⟨hp1, e1, x1⟩ := n2 gB hp x hB
        refine ⟨hp1, ?_, x1⟩
        rw [e1]
        cases e with
        | norm => exact absurd hr (hne fr' h')
        | exit id => rfl
        | ret => rfl
    | cond b x y =>
      simp only [runA] at hr ⊢
      split at hr
      · rename_i t ht
        try rw [ht]
        exact ih _ _ _ _ _ _ _ hr
      · simp at hr
    | block id b =>
      simp only [runA] at hr ⊢
      split at hr
      · rename_i j f1 h1 hx
        obtain ⟨n1, n2⟩ := ih _ _ _ _ _ _ _ hx
        split at hr
        · rename_i hj
          simp only [Option.some.injEq, Prod.mk.injEq] at hr
          obtain ⟨rfl, rfl, rfl⟩ := hr
          refine ⟨n1, fun gB hp x hB => ?_⟩
          obtain ⟨hp1, e1, x1⟩ := n2 gB hp x hB
          exact ⟨hp1, by rw [e1]; dsimp only; rw [if_pos hj], x1⟩
        · rename_i hj
          simp only [Option.some.injEq, Prod.mk.injEq] at hr
          obtain ⟨rfl, rfl, rfl⟩ := hr
          refine ⟨n1, fun gB hp x hB => ?_⟩
          obtain ⟨hp1, e1, x1⟩ := n2 gB hp x hB
          exact ⟨hp1, by rw [e1]; dsimp only; rw [if_neg hj], x1⟩
      · rename_i hne
        obtain ⟨n1, n2⟩ := ih _ _ _ _ _ _ _ hr
        refine ⟨n1, fun gB hp x hB => ?_⟩
        obtain ⟨hp1, e1, x1⟩ := n2 gB hp x hB
        refine ⟨hp1, ?_, x1⟩
        rw [e1]
        cases e with
        | norm => rfl
        | exit id => exact absurd hr (hne _ fr' h')
        | ret => rfl
    | loop b =>
      simp only [runA] at hr ⊢
      split at hr
      · rename_i f1 h1 hx
        obtain ⟨n1, n2⟩ := two hx hr
        refine ⟨n1, fun gB hp x hB => ?_⟩
        obtain ⟨hp1, hp2, e1, e2, x2⟩ := n2 gB hp x hB
        exact ⟨hp2, by rw [e1]; exact e2, x2⟩
      · rename_i hne
        obtain ⟨n1, n2⟩ := ih _ _ _ _ _ _ _ hr
        refine ⟨n1, fun gB hp x hB => ?_⟩
        obtain ⟨hp1, e1, x1⟩ := n2 gB hp x hB
        refine ⟨hp1, ?_, x1⟩
        rw [e1]
        cases e with
        | norm => exact absurd hr (hne fr' h')
        | exit id => rfl
        | ret => rfl
    | scope b =>
      simp only [runA] at hr ⊢
      exact ih _ _ _ _ _ _ _ hr
    | _ => simp [runA] at hr

end

end Go.AM
end

section
/- More fuel changes nothing: the exact form. No program here. -/
set_option linter.unusedSimpArgs false
set_option linter.unusedVariables false
namespace Go.AM
open Go

def CFm (cf cf' : CallF) : Prop := ∀ f args h r, cf f args h = some r → cf' f args h = some r

section
variable {X : Env} {cf cf' : CallF} {nt c : Nat} {ops : List Oper}

theorem stepA_mono (hcf : CFm cf cf') {i : Nat} {o : Oper} {fr : Fr} {h : H} {r : Fr × H} (hs : stepA X cf nt c ops i o fr h = some r) : stepA X cf' nt c ops i o fr h = some r := by
  unfold stepA at hs ⊢
  simp only [Option.bind_eq_some_iff] at hs
  obtain ⟨b, hb, hs⟩ := hs
  rw [hb, Option.bind_some]
  cases b with
  | false => exact hs
  | true =>
    simp only [if_true] at hs ⊢
    split at hs
    · rename_i hc
      rw [if_pos hc]
      simp only [Option.bind_eq_some_iff, Prod.exists] at hs ⊢
      obtain ⟨g, args, hcal, v, h1, hcall, hs⟩ := hs
      exact ⟨g, args, hcal, v, h1, hcf _ _ _ _ hcall, hs⟩
    · rename_i hc
      rw [if_neg hc]
      exact hs

theorem seqA_mono (hcf : CFm cf cf') : ∀ (rest : List Oper) (i : Nat) {fr : Fr} {h : H} {r : Fr × H}, seqA X cf nt c ops i rest fr h = some r → seqA X cf' nt c ops i rest fr h = some r
  | [], _, _, _, _, hs => hs
  | o :: rest, i, fr, h, r, hs => by
    simp only [seqA, Option.bind_eq_some_iff, Prod.exists] at hs ⊢
    obtain ⟨f1, h1, hs1, hs⟩ := hs
    exact ⟨f1, h1, stepA_mono hcf hs1, seqA_mono hcf rest (i + 1) hs⟩

theorem drawStep_mono (hcf : CFm cf cf') {bs : List Nat} {i : Nat} {o : Oper} {fr : Fr} {h : H} {sp : List Lo} {ss : List Sn} {r : Fr × H × List Lo × List Sn} (hs : drawStep X cf nt c ops bs i o fr h sp ss = some r) : drawStep X cf' nt c ops bs i o fr h sp ss = some r := by
  unfold drawStep at hs ⊢
  simp only [Option.bind_eq_some_iff] at hs
  obtain ⟨b, hb, hs⟩ := hs
  simp only [hb, Option.bind_some]
  cases b with
  | false => exact hs
  | true =>
    simp only [if_true] at hs ⊢
    by_cases hw : isW X o.op = true
    · rw [if_pos hw] at hs ⊢
      by_cases hc : isCall o.op = true
      · rw [if_pos hc] at hs ⊢
        simp only [Option.bind_eq_some_iff, Prod.exists] at hs ⊢
        obtain ⟨v, h1, ⟨g, args, hcal, hcall⟩, hs⟩ := hs
        exact ⟨v, h1, ⟨g, args, hcal, hcf _ _ _ _ hcall⟩, hs⟩
      · rw [if_neg hc] at hs ⊢
        exact hs
    · rw [if_neg hw] at hs ⊢
      by_cases hc : isCall o.op = true
      · rw [if_pos hc] at hs ⊢
        simp only [Option.bind_eq_some_iff, Prod.exists] at hs ⊢
        obtain ⟨g, args, hcal, v, h1, hcall, hs⟩ := hs
        exact ⟨g, args, hcal, v, h1, hcf _ _ _ _ hcall, hs⟩
      · rw [if_neg hc] at hs ⊢
        exact hs

theorem drawA_mono (hcf : CFm cf cf') {bs : List Nat} : ∀ (rest : List Oper) (i : Nat) {fr : Fr} {h : H} {sp : List Lo} {ss : List Sn} {r : Fr × H}, drawA X cf nt c ops bs i rest fr h sp ss = some r → drawA X cf' nt c ops bs i rest fr h sp ss = some r
  | [], _, _, _, _, _, _, hs => hs
  | o :: rest, i, fr, h, sp, ss, r, hs => by
    simp only [drawA, Option.bind_eq_some_iff, Prod.exists] at hs ⊢
    obtain ⟨f1, h1, sp1, ss1, hs1, hs⟩ := hs
    exact ⟨f1, h1, sp1, ss1, drawStep_mono hcf hs1, drawA_mono hcf rest (i + 1) hs⟩

theorem regionA_mono (hcf : CFm cf cf') {ops : Array Oper} {draw : Bool} {fr : Fr} {h : H} {r : Fr × H} (hs : regionA X cf nt ops draw fr h = some r) : regionA X cf' nt ops draw fr h = some r := by
  unfold regionA at hs ⊢
  dsimp only at hs ⊢
  split at hs
  · rename_i hd
    rw [if_pos hd]
    split at hs
    · rename_i hok
      rw [if_pos hok]
      exact drawA_mono hcf _ 0 hs
    · simp at hs
  · rename_i hd
    rw [if_neg hd]
    exact seqA_mono hcf _ 0 hs

def RunM (X : Env) (n m : Nat) : Prop := ∀ nt c fr h r, runA X n nt c fr h = some r → runA X m nt c fr h = some r

theorem callA_mono {n m : Nat} (hr : RunM X n m) : CFm (callA X (runA X n)) (callA X (runA X m)) := by
  intro f args h r hc
  unfold callA at hc ⊢
  split at hc
  · rename_i g hg
    exact hc
  · rename_i hg
    simp only [Option.bind_eq_some_iff] at hc
    obtain ⟨fn, hfn, c, hbody, hc⟩ := hc
    split at hc
    · rename_i hlen
      simp only [Option.bind_eq_some_iff, Prod.exists] at hc
      obtain ⟨e, fr, h1, hrun, hc⟩ := hc
      simp only [hfn, Option.bind_some, hbody, if_pos hlen, hr _ _ _ _ _ hrun]
      exact hc
    · simp at hc

theorem runA_mono : ∀ n m, n ≤ m → RunM X n m := by
  intro n
  induction n with
  | zero => intro m _ nt c fr h r hr; simp [runA] at hr
  | succ n ih =>
    intro m hm
    obtain ⟨m, rfl⟩ : ∃ k, m = k + 1 := ⟨m - 1, by omega⟩
    have ih := ih m (by omega)
    intro nt c fr h r hr
    cases c with
    | region id ops draw =>
      simp only [runA, Option.map_eq_some_iff] at hr ⊢
      obtain ⟨p, hreg, rfl⟩ := hr
      exact ⟨p, regionA_mono (callA_mono ih) hreg, rfl⟩
    | seq x y =>
      simp only [runA] at hr ⊢
      split at hr
      · rename_i f1 h1 hx
        rw [ih _ _ _ _ _ hx]
        exact ih _ _ _ _ _ hr
      · rename_i hne
        rw [ih _ _ _ _ _ hr]
        obtain ⟨e, f1, h1⟩ := r
        cases e with
        | norm => exact absurd hr (hne f1 h1)
        | exit id => rfl
        | ret => rfl
    | cond b x y =>
      simp only [runA] at hr ⊢
      cases hv : fr.ev b with
      | one s => cases s with
        | bool t => rw [hv] at hr; exact ih _ _ _ _ _ hr
        | _ => rw [hv] at hr; simp at hr
      | _ => rw [hv] at hr; simp at hr
    | block id b =>
      simp only [runA] at hr ⊢
      cases hx : runA X n nt b fr h with
      | none => rw [hx] at hr; simp at hr
      | some p =>
        rw [hx] at hr
        rw [ih _ _ _ _ _ hx]
        exact hr
    | loop b =>
      simp only [runA] at hr ⊢
      split at hr
      · rename_i f1 h1 hx
        rw [ih _ _ _ _ _ hx]
        exact ih _ _ _ _ _ hr
      · rename_i hne
        rw [ih _ _ _ _ _ hr]
        obtain ⟨e, f1, h1⟩ := r
        cases e with
        | norm => exact absurd hr (hne f1 h1)
        | exit id => rfl
        | ret => rfl
    | scope b => simp only [runA] at hr ⊢; exact ih _ _ _ _ _ hr
    | skip | label | exit | ret => simp only [runA] at hr ⊢; exact hr
    | _ => simp [runA] at hr

end

/-! ### Runs and calls, whatever the fuel -/
def Runs (X : Env) (nt : Nat) (c : Code) (fr : Fr) (h : H) (Q : Ex → Fr → H → Prop) : Prop := ∃ n e fr' h', runA X n nt c fr h = some (e, fr', h') ∧ Q e fr' h'
def CallsA (X : Env) (f : FuncId) (args : List AV) (h : H) (v : AV) (h' : H) : Prop := ∃ n, callA X (runA X n) f args h = some (v, h')
def Reg (X : Env) (nt : Nat) (ops : Array Oper) (draw : Bool) (fr : Fr) (h : H) (K : Fr → H → Prop) : Prop := ∃ n fr' h', regionA X (callA X (runA X n)) nt ops draw fr h = some (fr', h') ∧ K fr' h'
def Seq (X : Env) (nt c : Nat) (ops : List Oper) (i : Nat) (rest : List Oper) (fr : Fr) (h : H) (K : Fr → H → Prop) : Prop := ∃ n fr' h', seqA X (callA X (runA X n)) nt c ops i rest fr h = some (fr', h') ∧ K fr' h'
def Draw (X : Env) (nt c : Nat) (ops : List Oper) (bs : List Nat) (i : Nat) (rest : List Oper) (fr : Fr) (h : H) (sp : List Lo) (ss : List Sn) (K : Fr → H → Prop) : Prop := ∃ n fr' h', drawA X (callA X (runA X n)) nt c ops bs i rest fr h sp ss = some (fr', h') ∧ K fr' h'

section
variable {X : Env} {nt : Nat} {fr : Fr} {h : H} {Q : Ex → Fr → H → Prop}

theorem Runs.mono {c : Code} {Q' : Ex → Fr → H → Prop} (hr : Runs X nt c fr h Q) (hq : ∀ e fr' h', Q e fr' h' → Q' e fr' h') : Runs X nt c fr h Q' :=
  let ⟨n, e, f, h', r, q⟩ := hr
  ⟨n, e, f, h', r, hq _ _ _ q⟩
theorem Runs.skip (q : Q .norm fr h) : Runs X nt .skip fr h Q := ⟨1, _, _, _, rfl, q⟩
theorem Runs.label {l : Nat} (q : Q .norm fr h) : Runs X nt (.label l) fr h Q := ⟨1, _, _, _, rfl, q⟩
theorem Runs.exit {id : Nat} (q : Q (.exit id) fr h) : Runs X nt (.exit id) fr h Q := ⟨1, _, _, _, rfl, q⟩
theorem Runs.ret (q : Q .ret fr h) : Runs X nt .ret fr h Q := ⟨1, _, _, _, rfl, q⟩
theorem Runs.region {id : Nat} {ops : Array Oper} {draw : Bool} (hr : Reg X nt ops draw fr h (Q .norm)) : Runs X nt (.region id ops draw) fr h Q := by
  obtain ⟨n, f, h', r, q⟩ := hr
  exact ⟨n + 1, _, _, _, by simp only [runA, r, Option.map_some], q⟩
/-- What comes behind the first of two. -/
def Then (K : Fr → H → Prop) (Q : Ex → Fr → H → Prop) : Ex → Fr → H → Prop
  | .norm, fr, h => K fr h
  | e, fr, h => Q e fr h
theorem Runs.seq {a b : Code} (hr : Runs X nt a fr h (Then (fun fr h => Runs X nt b fr h Q) Q)) : Runs X nt (.seq a b) fr h Q := by
  obtain ⟨n, e, f, h1, r, q⟩ := hr
  cases e with
  | norm =>
    obtain ⟨m, e2, f2, h2, r2, q2⟩ := q
    refine ⟨max n m + 1, e2, f2, h2, ?_, q2⟩
    simp only [runA, runA_mono n (max n m) (by omega) _ _ _ _ _ r, runA_mono m (max n m) (by omega) _ _ _ _ _ r2]
  | exit id => exact ⟨n + 1, _, _, _, by simp only [runA, r], q⟩
  | ret => exact ⟨n + 1, _, _, _, by simp only [runA, r], q⟩
theorem Runs.cond {c : Operand} {a b : Code} {t : Bool} (hc : fr.ev c = .one (.bool t)) (hr : Runs X nt (if t then a else b) fr h Q) : Runs X nt (.cond c a b) fr h Q := by
  obtain ⟨n, e, f, h1, r, q⟩ := hr
  exact ⟨n + 1, _, _, _, by simp only [runA, hc, r], q⟩
def InBlock (id : Nat) (Q : Ex → Fr → H → Prop) : Ex → Fr → H → Prop
  | .exit j, fr, h => if j = id then Q .norm fr h else Q (.exit j) fr h
  | e, fr, h => Q e fr h
theorem Runs.block {id : Nat} {b : Code} (hr : Runs X nt b fr h (InBlock id Q)) : Runs X nt (.block id b) fr h Q := by
  obtain ⟨n, e, f, h1, r, q⟩ := hr
  cases e with
  | norm => exact ⟨n + 1, _, _, _, by simp only [runA, r], q⟩
  | exit j =>
    by_cases hj : j = id
    · simp only [InBlock, hj, if_true] at q
      exact ⟨n + 1, _, _, _, by simp only [runA, r, hj, if_true], q⟩
    · simp only [InBlock, hj, if_false] at q
      exact ⟨n + 1, _, _, _, by simp only [runA, r, hj, if_false], q⟩
  | ret => exact ⟨n + 1, _, _, _, by simp only [runA, r], q⟩
theorem Runs.scope {b : Code} (hr : Runs X nt b fr h Q) : Runs X nt (.scope b) fr h Q := by
  obtain ⟨n, e, f, h1, r, q⟩ := hr
  exact ⟨n + 1, _, _, _, by simp only [runA, r], q⟩
theorem Runs.round {b : Code} (hr : Runs X nt b fr h (Then (fun fr h => Runs X nt (.loop b) fr h Q) Q)) : Runs X nt (.loop b) fr h Q := by
  obtain ⟨n, e, f, h1, r, q⟩ := hr
  cases e with
  | norm =>
    obtain ⟨m, e2, f2, h2, r2, q2⟩ := q
    refine ⟨max n m + 1, e2, f2, h2, ?_, q2⟩
    simp only [runA, runA_mono n (max n m) (by omega) _ _ _ _ _ r, runA_mono m (max n m) (by omega) _ _ _ _ _ r2]
  | exit id => exact ⟨n + 1, _, _, _, by simp only [runA, r], q⟩
  | ret => exact ⟨n + 1, _, _, _, by simp only [runA, r], q⟩
/-- A loop by an invariant with a number that falls. -/
theorem Runs.loop {b : Code} (I : Nat → Fr → H → Prop) (hround : ∀ k fr h, I k fr h → Runs X nt b fr h (Then (fun fr' h' => ∃ k', k' < k ∧ I k' fr' h') Q)) : ∀ k fr h, I k fr h → Runs X nt (.loop b) fr h Q := by
  intro k
  induction k using Nat.strongRecOn with
  | _ k ih =>
    intro fr h hI
    refine Runs.round ((hround k fr h hI).mono fun e fr' h' q => ?_)
    cases e with
    | norm => obtain ⟨k', hlt, hI'⟩ := q; exact ih k' hlt fr' h' hI'
    | exit id => exact q
    | ret => exact q

theorem CallsA.of_body {f : FuncId} {fn : Func} {c : Code} {args : List AV} {v : AV} {h' : H} (hE : X.E f = none) (hF : X.F f = some fn) (hb : fn.body = some c) (hlen : args.length ≤ fn.ntmps)
    (hr : Runs X fn.ntmps c (Fr.of 0 args .nil) h fun e fr' h1 => (e = .norm ∨ e = .ret) ∧ resultsA X fn fr' h1 = some v ∧ h1 = h') : CallsA X f args h v h' := by
  obtain ⟨n, e, fr', h1, r, he, hres, rfl⟩ := hr
  refine ⟨n, ?_⟩
  unfold callA
  rw [hE]
  dsimp only
  rw [hF, Option.bind_some, hb, Option.bind_some, if_pos hlen, r, Option.bind_some]
  dsimp only
  rcases he with rfl | rfl
  · dsimp only; rw [hres]; rfl
  · dsimp only; rw [hres]; rfl

/-- A call and what it leaves. -/
def CallsQ (X : Env) (f : FuncId) (args : List AV) (h : H) (Q : AV → H → Prop) : Prop := ∃ v h', CallsA X f args h v h' ∧ Q v h'
theorem CallsQ.of_body {f : FuncId} {fn : Func} {c : Code} {args : List AV} {Q : AV → H → Prop} (hE : X.E f = none) (hF : X.F f = some fn) (hb : fn.body = some c) (hlen : args.length ≤ fn.ntmps)
    (hr : Runs X fn.ntmps c (Fr.of 0 args .nil) h fun e fr' h1 => (e = .norm ∨ e = .ret) ∧ ∃ v, resultsA X fn fr' h1 = some v ∧ Q v h1) : CallsQ X f args h Q := by
  obtain ⟨n, e, fr', h1, r, he, v, hres, q⟩ := hr
  exact ⟨v, h1, CallsA.of_body hE hF hb hlen ⟨n, e, fr', h1, r, he, hres, rfl⟩, q⟩

theorem Seq.nil {c i : Nat} {ops : List Oper} {K : Fr → H → Prop} (k : K fr h) : Seq X nt c ops i [] fr h K := ⟨0, fr, h, rfl, k⟩
theorem Seq.cons {c i : Nat} {ops : List Oper} {o : Oper} {rest : List Oper} {K : Fr → H → Prop} {fr1 : Fr} {h1 : H} (n : Nat) (hs : stepA X (callA X (runA X n)) nt c ops i o fr h = some (fr1, h1)) (hr : Seq X nt c ops (i + 1) rest fr1 h1 K) : Seq X nt c ops i (o :: rest) fr h K := by
  obtain ⟨m, f, h2, r, k⟩ := hr
  refine ⟨max n m, f, h2, ?_, k⟩
  simp only [seqA]
  rw [stepA_mono (callA_mono (runA_mono n (max n m) (by omega))) hs, Option.bind_some]
  exact seqA_mono (callA_mono (runA_mono m (max n m) (by omega))) rest (i + 1) r
theorem Reg.seq {ops : Array Oper} {K : Fr → H → Prop} (hr : Seq X nt h.nx ops.toList 0 ops.toList fr { h with nx := h.nx + ops.toList.length } K) : Reg X nt ops false fr h K := by
  obtain ⟨n, f, h', r, k⟩ := hr
  refine ⟨n, f, h', ?_, k⟩
  unfold regionA
  dsimp only
  rw [if_neg (by simp)]
  exact r
theorem Draw.nil {c i : Nat} {ops : List Oper} {bs : List Nat} {sp : List Lo} {ss : List Sn} {K : Fr → H → Prop} (k : K fr h) : Draw X nt c ops bs i [] fr h sp ss K := ⟨0, fr, h, rfl, k⟩
theorem Draw.cons {c i : Nat} {ops : List Oper} {bs : List Nat} {o : Oper} {rest : List Oper} {sp sp1 : List Lo} {ss ss1 : List Sn} {K : Fr → H → Prop} {fr1 : Fr} {h1 : H} (n : Nat) (hs : drawStep X (callA X (runA X n)) nt c ops bs i o fr h sp ss = some (fr1, h1, sp1, ss1)) (hr : Draw X nt c ops bs (i + 1) rest fr1 h1 sp1 ss1 K) : Draw X nt c ops bs i (o :: rest) fr h sp ss K := by
  obtain ⟨m, f, h2, r, k⟩ := hr
  refine ⟨max n m, f, h2, ?_, k⟩
  simp only [drawA]
  rw [drawStep_mono (callA_mono (runA_mono n (max n m) (by omega))) hs, Option.bind_some]
  exact drawA_mono (callA_mono (runA_mono m (max n m) (by omega))) rest (i + 1) r
theorem Reg.draw {ops : Array Oper} {K : Fr → H → Prop} (hok : drawOK X ops.toList = true) (hr : Draw X nt h.nx ops.toList (befs ops.toList) 0 ops.toList fr { h with nx := h.nx + ops.toList.length } [] [] K) : Reg X nt ops true fr h K := by
  obtain ⟨n, f, h', r, k⟩ := hr
  refine ⟨n, f, h', ?_, k⟩
  unfold regionA
  dsimp only
  rw [if_pos rfl, if_pos hok]
  exact r

end
end Go.AM
end

section
/- Runs with slots as functions: what the walks step by. No program here. -/
set_option linter.unusedSimpArgs false
set_option linter.unusedVariables false
namespace Go.AM
open Go
noncomputable section

abbrev FF := Nat → AV
def FF.set (f : FF) (n : Nat) (v : AV) : FF := fun m => bif Nat.beq m n then v else f m
def FF.ev (f : FF) : Operand → AV
  | .tmp t => f t
  | .const v => constAV v
  | .func g => .one (.fn g [])
  | .global _ => .top
def putF (nt : Nat) (f : FF) (dst : Option Tmp) (v : AV) : Option FF :=
  match dst with
  | none => some f
  | some d => if d < nt then some (f.set d v) else none
def wantedF (ops : List Oper) (f : FF) (o : Oper) : Option Bool :=
  match o.guard with
  | none => some true
  | some (j, want) =>
    match (ops[j]?).bind (·.dst) with
    | some d => match f d with | .one (.bool b) => some (b == want) | .tup [] => some false | _ => none
    | none => none
def stepF (X : Env) (cf : CallF) (nt c : Nat) (ops : List Oper) (i : Nat) (o : Oper) (f : FF) (h : H) : Option (FF × H) :=
  (wantedF ops f o).bind fun w =>
    if w then
      if isCall o.op then (callee f.ev o.op).bind fun (g, args) => (cf g args h).bind fun (v, h') => (putF nt f o.dst v).map fun f' => (f', h')
      else (aop X f.ev h (c + i) o.op).bind fun (v, h') => (putF nt f o.dst v).map fun f' => (f', h')
    else (putF nt f o.dst undefA).map fun f' => (f', h)
def drawStepF (X : Env) (cf : CallF) (nt c : Nat) (ops : List Oper) (bs : List Nat) (i : Nat) (o : Oper) (f : FF) (h : H) (sp : List Lo) (ss : List Sn) : Option (FF × H × List Lo × List Sn) :=
  (wantedF ops f o).bind fun w =>
    if w then
      if isW X o.op then
        (if isCall o.op then (callee f.ev o.op).bind fun (g, args) => cf g args (maskH h c (maskOf ops (bs.getD i 0))) else aop X f.ev (maskH h c (maskOf ops (bs.getD i 0))) (c + i) o.op).bind fun (v, h') =>
          if sameLoads (bs.getD i 0) (unmaskH h c (maskOf ops (bs.getD i 0)) h') sp then (putF nt f o.dst v).map fun f' => (f', unmaskH h c (maskOf ops (bs.getD i 0)) h', sp, ⟨i, h⟩ :: ss) else none
      else if isCall o.op then
        (callee f.ev o.op).bind fun (g, args) =>
          (cf g args { maskH h c (maskOf ops (bs.getD i 0)) with ro := (maskH h c (maskOf ops (bs.getD i 0))).nx }).bind fun (v, _) =>
            if v.flat then (putF nt f o.dst v).map fun f' => (f', h, sp, ss) else none
      else if isN o.op then
        (aop X f.ev hE (c + i) o.op).bind fun (v, he) => (he.get (c + i)).bind fun l => (putF nt f o.dst v).map fun f' => (f', h.put (c + i) l, sp, ss)
      else match o.op with
        | .load t a =>
          match f.ev a with
          | .one (.ptr (some (b, off))) =>
            if (X.T t).ty.isNone then none
            else if b < c ∨ c + ops.length ≤ b ∨ (bs.getD i 0).testBit (b - c) = true then
              (h.load b off (X.T t).size).bind fun l => if sameBefore (bs.getD i 0) b off l ss then (mkAV (X.T t).isAgg l).bind fun v => (putF nt f o.dst v).map fun f' => (f', h, ⟨i, b, off, l⟩ :: sp, ss) else none
            else none
          | _ => none
        | op => (aop X f.ev hE (c + i) op).bind fun (v, _) => (putF nt f o.dst v).map fun f' => (f', h, sp, ss)
    else (putF nt f o.dst undefA).map fun f' => (f', h, sp, ss)
end

theorem ev_get (fr : Fr) : fr.ev = FF.ev (Fr.get fr) := by
  funext x
  cases x <;> rfl
theorem set_get (fr : Fr) (n : Nat) (v : AV) : Fr.get (Fr.set fr n v) = FF.set (Fr.get fr) n v := by
  funext m
  rw [Fr.get_set]
  unfold FF.set
  by_cases h : m = n
  · subst h; simp
  · have : Nat.beq m n = false := by
      cases hb : Nat.beq m n with
      | false => rfl
      | true => exact absurd (Nat.eq_of_beq_eq_true hb) h
    rw [if_neg h, this]; rfl
theorem put_get (nt : Nat) (fr : Fr) (dst : Option Tmp) (v : AV) : putF nt (Fr.get fr) dst v = (putS nt fr dst v).map Fr.get := by
  unfold putF putS
  cases dst with
  | none => rfl
  | some d =>
    dsimp only
    split
    · rw [Option.map_some, set_get]
    · rfl
theorem wanted_get (ops : List Oper) (fr : Fr) (o : Oper) : wantedF ops (Fr.get fr) o = wantedA ops fr o := rfl

section
variable {X : Env} {nt : Nat}

theorem stepF_eq {cf : CallF} {c i : Nat} {ops : List Oper} {o : Oper} {fr : Fr} {h h1 : H} {f1 : FF} (hs : stepF X cf nt c ops i o (Fr.get fr) h = some (f1, h1)) : ∃ fr1, stepA X cf nt c ops i o fr h = some (fr1, h1) ∧ Fr.get fr1 = f1 := by
  unfold stepF at hs
  unfold stepA
  rw [wanted_get] at hs
  simp only [Option.bind_eq_some_iff] at hs
  obtain ⟨b, hb, hs⟩ := hs
  rw [hb, Option.bind_some, ev_get]
  have fin : ∀ {v : AV} {h2 : H}, ((putF nt (Fr.get fr) o.dst v).map fun f' => (f', h2)) = some (f1, h1) → ∃ fr1, ((putS nt fr o.dst v).map fun fr' => (fr', h2)) = some (fr1, h1) ∧ Fr.get fr1 = f1 := fun {v h2} hp => by
    rw [put_get] at hp
    simp only [Option.map_map, Option.map_eq_some_iff] at hp ⊢
    obtain ⟨fr', hfr, e⟩ := hp
    simp only [Function.comp, Prod.mk.injEq] at e
    exact ⟨fr', ⟨fr', hfr, by rw [e.2]⟩, e.1⟩
  cases b with
  | false => exact fin hs
  | true =>
    simp only [if_true] at hs ⊢
    split at hs
    · rename_i hc
      rw [if_pos hc]
      simp only [Option.bind_eq_some_iff, Prod.exists] at hs
      obtain ⟨g, args, hcal, v, h2, hcall, hs⟩ := hs
      rw [hcal, Option.bind_some]
      dsimp only
      rw [hcall, Option.bind_some]
      exact fin hs
    · rename_i hc
      rw [if_neg hc]
      simp only [Option.bind_eq_some_iff, Prod.exists] at hs
      obtain ⟨v, h2, hop, hs⟩ := hs
      rw [hop, Option.bind_some]
      exact fin hs

def RunsF (X : Env) (nt : Nat) (c : Code) (f : FF) (h : H) (Q : Ex → FF → H → Prop) : Prop := ∀ fr, Fr.get fr = f → Runs X nt c fr h fun e fr' h' => Q e (Fr.get fr') h'
def SeqF (X : Env) (nt c : Nat) (ops : List Oper) (i : Nat) (rest : List Oper) (f : FF) (h : H) (K : FF → H → Prop) : Prop := ∀ fr, Fr.get fr = f → Seq X nt c ops i rest fr h fun fr' h' => K (Fr.get fr') h'

variable {f : FF} {h : H} {Q : Ex → FF → H → Prop}
theorem RunsF.mono {c : Code} {Q' : Ex → FF → H → Prop} (hr : RunsF X nt c f h Q) (hq : ∀ e f' h', Q e f' h' → Q' e f' h') : RunsF X nt c f h Q' := fun fr e => (hr fr e).mono fun _ _ _ q => hq _ _ _ q
theorem RunsF.skip (q : Q .norm f h) : RunsF X nt .skip f h Q := fun fr e => Runs.skip (by rw [e]; exact q)
theorem RunsF.label {l : Nat} (q : Q .norm f h) : RunsF X nt (.label l) f h Q := fun fr e => Runs.label (by rw [e]; exact q)
theorem RunsF.exit {id : Nat} (q : Q (.exit id) f h) : RunsF X nt (.exit id) f h Q := fun fr e => Runs.exit (by rw [e]; exact q)
theorem RunsF.ret (q : Q .ret f h) : RunsF X nt .ret f h Q := fun fr e => Runs.ret (by rw [e]; exact q)
def ThenF (K : FF → H → Prop) (Q : Ex → FF → H → Prop) : Ex → FF → H → Prop
  | .norm, f, h => K f h
  | e, f, h => Q e f h
theorem RunsF.seq {a b : Code} (hr : RunsF X nt a f h (ThenF (fun f h => RunsF X nt b f h Q) Q)) : RunsF X nt (.seq a b) f h Q := fun fr e => Runs.seq ((hr fr e).mono fun e fr' h' q => by
  cases e with
  | norm => exact q fr' rfl
  | exit id => exact q
  | ret => exact q)
theorem RunsF.cond {c : Operand} {a b : Code} {t : Bool} (hc : f.ev c = .one (.bool t)) (hr : RunsF X nt (if t then a else b) f h Q) : RunsF X nt (.cond c a b) f h Q := fun fr e => Runs.cond (by rw [ev_get, e]; exact hc) (hr fr e)
def InBlockF (id : Nat) (Q : Ex → FF → H → Prop) : Ex → FF → H → Prop
  | .exit j, f, h => if j = id then Q .norm f h else Q (.exit j) f h
  | e, f, h => Q e f h
theorem RunsF.block {id : Nat} {b : Code} (hr : RunsF X nt b f h (InBlockF id Q)) : RunsF X nt (.block id b) f h Q := fun fr e => Runs.block ((hr fr e).mono fun e fr' h' q => by
  cases e <;> exact q)
theorem RunsF.scope {b : Code} (hr : RunsF X nt b f h Q) : RunsF X nt (.scope b) f h Q := fun fr e => Runs.scope (hr fr e)
theorem RunsF.loop {b : Code} (I : Nat → FF → H → Prop) (hround : ∀ k f h, I k f h → RunsF X nt b f h (ThenF (fun f' h' => ∃ k', k' < k ∧ I k' f' h') Q)) (k : Nat) (h0 : I k f h) : RunsF X nt (.loop b) f h Q := fun fr e =>
  Runs.loop (fun k fr h => I k (Fr.get fr) h) (fun k fr h hI => (hround k _ h hI fr rfl).mono fun e fr' h' q => by cases e <;> exact q) k fr h (by rw [e]; exact h0)
theorem RunsF.region {id : Nat} {ops : Array Oper} (hr : SeqF X nt h.nx ops.toList 0 ops.toList f { h with nx := h.nx + ops.toList.length } (Q .norm)) : RunsF X nt (.region id ops false) f h Q := fun fr e => Runs.region (Reg.seq (hr fr e))
theorem RunsF.reg {id : Nat} {ops : Array Oper} {b : Code} (hr : SeqF X nt h.nx ops.toList 0 ops.toList f { h with nx := h.nx + ops.toList.length } (fun f h => RunsF X nt b f h Q)) : RunsF X nt (.seq (.region id ops false) b) f h Q := RunsF.seq (RunsF.region hr)
theorem SeqF.nil {c i : Nat} {ops : List Oper} {K : FF → H → Prop} (k : K f h) : SeqF X nt c ops i [] f h K := fun fr e => Seq.nil (by rw [e]; exact k)
theorem SeqF.cons {c i : Nat} {ops : List Oper} {o : Oper} {rest : List Oper} {K : FF → H → Prop} {f1 : FF} {h1 : H} (n : Nat) (hs : stepF X (callA X (runA X n)) nt c ops i o f h = some (f1, h1)) (hr : SeqF X nt c ops (i + 1) rest f1 h1 K) : SeqF X nt c ops i (o :: rest) f h K := fun fr e => by
  subst e
  obtain ⟨fr1, e1, e2⟩ := stepF_eq hs
  exact Seq.cons n e1 (hr fr1 e2)

theorem drawStepF_eq {cf : CallF} {c i : Nat} {ops : List Oper} {bs : List Nat} {o : Oper} {fr : Fr} {h h1 : H} {sp sp1 : List Lo} {ss ss1 : List Sn} {f1 : FF} (hs : drawStepF X cf nt c ops bs i o (Fr.get fr) h sp ss = some (f1, h1, sp1, ss1)) :
    ∃ fr1, drawStep X cf nt c ops bs i o fr h sp ss = some (fr1, h1, sp1, ss1) ∧ Fr.get fr1 = f1 := by
  unfold drawStepF at hs
  unfold drawStep
  rw [wanted_get] at hs
  simp only [Option.bind_eq_some_iff] at hs
  obtain ⟨b, hb, hs⟩ := hs
  rw [hb]
  simp only [Option.bind_some]
  rw [ev_get]
  have fin : ∀ {v : AV} {r : H × List Lo × List Sn}, ((putF nt (Fr.get fr) o.dst v).map fun f' => (f', r)) = some (f1, h1, sp1, ss1) → ∃ fr1, ((putS nt fr o.dst v).map fun fr' => (fr', r)) = some (fr1, h1, sp1, ss1) ∧ Fr.get fr1 = f1 := fun {v r} hp => by
    rw [put_get] at hp
    simp only [Option.map_map, Option.map_eq_some_iff] at hp ⊢
    obtain ⟨fr', hfr, e⟩ := hp
    simp only [Function.comp, Prod.mk.injEq] at e
    obtain ⟨e1, e2⟩ := e
    exact ⟨fr', ⟨fr', hfr, by rw [e2]⟩, e1⟩
  cases b with
  | false => exact fin hs
  | true =>
    simp only [if_true] at hs ⊢
    by_cases hw : isW X o.op = true
    · rw [if_pos hw] at hs ⊢
      simp only [Option.bind_eq_some_iff, Prod.exists] at hs
      obtain ⟨v, h2, hop, hs⟩ := hs
      split at hs
      · rename_i hsl
        rw [hop, Option.bind_some]
        dsimp only
        rw [if_pos hsl]
        exact fin hs
      · simp at hs
    · rw [if_neg hw] at hs ⊢
      by_cases hc : isCall o.op = true
      · rw [if_pos hc] at hs ⊢
        simp only [Option.bind_eq_some_iff, Prod.exists] at hs
        obtain ⟨g, args, hcal, v, h2, hcall, hs⟩ := hs
        split at hs
        · rename_i hflat
          rw [hcal, Option.bind_some]
          dsimp only
          rw [hcall, Option.bind_some]
          dsimp only
          rw [if_pos hflat]
          exact fin hs
        · simp at hs
      · rw [if_neg hc] at hs ⊢
        by_cases hN : isN o.op = true
        · rw [if_pos hN] at hs ⊢
          simp only [Option.bind_eq_some_iff, Prod.exists] at hs
          obtain ⟨v, he, hop, l, hl, hs⟩ := hs
          rw [hop, Option.bind_some]
          dsimp only
          rw [hl, Option.bind_some]
          exact fin hs
        · rw [if_neg hN] at hs ⊢
          split at hs
          · rename_i t a hopx
            split at hs
            · rename_i b' off hev
              split at hs
              · simp at hs
              · rename_i hty
                split at hs
                · rename_i hcond
                  simp only [Option.bind_eq_some_iff] at hs
                  obtain ⟨l, hl, hs⟩ := hs
                  split at hs
                  · rename_i hsb
                    simp only [Option.bind_eq_some_iff] at hs
                    obtain ⟨v, hv, hs⟩ := hs
                    simp only [hopx, hev, if_neg hty, if_pos hcond, hl, Option.bind_some, hsb, if_true, hv]
                    exact fin hs
                  · simp at hs
                · simp at hs
            · simp at hs
          · rename_i hno
            simp only [Option.bind_eq_some_iff, Prod.exists] at hs
            obtain ⟨v, he, hop, hs⟩ := hs
            split
            · rename_i t a hop'
              exact absurd hop' (hno t a)
            · rw [hop, Option.bind_some]
              exact fin hs

def DrawF (X : Env) (nt c : Nat) (ops : List Oper) (bs : List Nat) (i : Nat) (rest : List Oper) (f : FF) (h : H) (sp : List Lo) (ss : List Sn) (K : FF → H → Prop) : Prop := ∀ fr, Fr.get fr = f → Draw X nt c ops bs i rest fr h sp ss fun fr' h' => K (Fr.get fr') h'
theorem DrawF.nil {c i : Nat} {ops : List Oper} {bs : List Nat} {sp : List Lo} {ss : List Sn} {K : FF → H → Prop} (k : K f h) : DrawF X nt c ops bs i [] f h sp ss K := fun fr e => Draw.nil (by rw [e]; exact k)
theorem DrawF.cons {c i : Nat} {ops : List Oper} {bs : List Nat} {o : Oper} {rest : List Oper} {sp sp1 : List Lo} {ss ss1 : List Sn} {K : FF → H → Prop} {f1 : FF} {h1 : H} (n : Nat) (hs : drawStepF X (callA X (runA X n)) nt c ops bs i o f h sp ss = some (f1, h1, sp1, ss1)) (hr : DrawF X nt c ops bs (i + 1) rest f1 h1 sp1 ss1 K) : DrawF X nt c ops bs i (o :: rest) f h sp ss K := fun fr e => by
  subst e
  obtain ⟨fr1, e1, e2⟩ := drawStepF_eq hs
  exact Draw.cons n e1 (hr fr1 e2)
theorem RunsF.dregion {id : Nat} {ops : Array Oper} (hok : drawOK X ops.toList = true) (hr : DrawF X nt h.nx ops.toList (befs ops.toList) 0 ops.toList f { h with nx := h.nx + ops.toList.length } [] [] (Q .norm)) : RunsF X nt (.region id ops true) f h Q := fun fr e => Runs.region (Reg.draw hok (hr fr e))
theorem RunsF.dreg {id : Nat} {ops : Array Oper} {b : Code} (hok : drawOK X ops.toList = true) (hr : DrawF X nt h.nx ops.toList (befs ops.toList) 0 ops.toList f { h with nx := h.nx + ops.toList.length } [] [] (fun f h => RunsF X nt b f h Q)) : RunsF X nt (.seq (.region id ops true) b) f h Q := RunsF.seq (RunsF.dregion hok hr)

/-- The slots that a call begins with. -/
def FF.of (args : List AV) : FF := fun i => args.getD i undefA
theorem of_get (args : List AV) : Fr.get (Fr.of 0 args .nil) = FF.of args := by
  funext i
  rw [Fr.get_of, Fr.get_nil]
  unfold FF.of
  by_cases hi : i < args.length
  · rw [if_pos (by omega)]; simp
  · rw [if_neg (by omega), List.getD_eq_getElem?_getD, List.getElem?_eq_none (by omega)]; rfl

noncomputable def resultF (X : Env) (f : FF) (h : H) : ResultVar → Option (Bool × List Sc)
  | .tmp t => avEl (f t)
  | .cell a t => match f a with
    | .one (.ptr (some (i, o))) => if (X.T t).ty.isNone then none else (h.load i o (X.T t).size).bind fun l => (mkAV (X.T t).isAgg l).bind avEl
    | _ => none
noncomputable def resultsF (X : Env) (fn : Func) (f : FF) (h : H) : Option AV :=
  (allSome (fn.results.toList.map (resultF X f h))).bind fun l => match l with | [x] => elAV x | l => some (.tup l)
theorem results_get (fn : Func) (fr : Fr) (h : H) : resultsF X fn (Fr.get fr) h = resultsA X fn fr h := by
  unfold resultsF resultsA
  have : resultF X (Fr.get fr) h = resultA X fr h := by funext r; cases r <;> rfl
  rw [this]
  rfl

theorem CallsQ.of_bodyF {g : FuncId} {fn : Func} {c : Code} {args : List AV} {Q : AV → H → Prop} (hE : X.E g = none) (hF : X.F g = some fn) (hb : fn.body = some c) (hlen : args.length ≤ fn.ntmps)
    (hr : RunsF X fn.ntmps c (FF.of args) h fun e f' h1 => (e = .norm ∨ e = .ret) ∧ ∃ v, resultsF X fn f' h1 = some v ∧ Q v h1) : CallsQ X g args h Q :=
  CallsQ.of_body hE hF hb hlen ((hr _ (of_get args)).mono fun e fr' h1 ⟨he, v, hv, q⟩ => ⟨he, v, by rw [← results_get]; exact hv, q⟩)

end
end Go.AM
end

section
/- Steps that read and write blocks, and steps that call. No program here. -/
set_option linter.unusedSimpArgs false
set_option linter.unusedVariables false
namespace Go.AM
open Go

section
variable {X : Env} {nt c i : Nat} {ops rest : List Oper} {o : Oper} {f f1 : FF} {h h1 : H} {K : FF → H → Prop}

/-- A load that is wanted. -/
theorem SeqF.load {t : TypeId} {a : Operand} {b off : Nat} {l : List Sc} {v : AV} (hw : wantedF ops f o = some true) (ho : o.op = .load t a) (ha : f.ev a = .one (.ptr (some (b, off)))) (hty : (X.T t).ty.isNone = false) (hl : h.load b off (X.T t).size = some l)
    (hv : mkAV (X.T t).isAgg l = some v) (hp : putF nt f o.dst v = some f1) (hr : SeqF X nt c ops (i + 1) rest f1 h K) : SeqF X nt c ops i (o :: rest) f h K := by
  refine SeqF.cons 0 (f1 := f1) (h1 := h) ?_ hr
  unfold stepF
  rw [hw, Option.bind_some, if_pos rfl, if_neg (by rw [ho]; simp [isCall]), ho]
  simp only [aop, ha, hty, Bool.false_eq_true, if_false, hl, Option.bind_some, hv, Option.map_some, hp]

/-- A store that is wanted. -/
theorem SeqF.store {t : TypeId} {a x : Operand} {b off : Nat} {l : List Sc} (hw : wantedF ops f o = some true) (ho : o.op = .store t a x) (ha : f.ev a = .one (.ptr (some (b, off)))) (hty : (X.T t).ty.isNone = false) (hx : (f.ev x).cells = some l) (hlen : l.length = (X.T t).size)
    (hl : h.store b off l = some h1) (hp : putF nt f o.dst undefA = some f1) (hr : SeqF X nt c ops (i + 1) rest f1 h1 K) : SeqF X nt c ops i (o :: rest) f h K := by
  refine SeqF.cons 0 (f1 := f1) (h1 := h1) ?_ hr
  unfold stepF
  rw [hw, Option.bind_some, if_pos rfl, if_neg (by rw [ho]; simp [isCall]), ho]
  simp only [aop, ha, hty, Bool.false_eq_true, if_false, hx, hlen, if_true, hl, Option.bind_some, Option.map_some, hp]

/-- A call that is wanted. -/
theorem SeqF.call {g : FuncId} {args : List AV} {v : AV} (hw : wantedF ops f o = some true) (hc : isCall o.op = true) (hcal : callee f.ev o.op = some (g, args)) (hcall : CallsA X g args h v h1) (hp : putF nt f o.dst v = some f1) (hr : SeqF X nt c ops (i + 1) rest f1 h1 K) : SeqF X nt c ops i (o :: rest) f h K := by
  obtain ⟨n, e⟩ := hcall
  refine SeqF.cons n (f1 := f1) (h1 := h1) ?_ hr
  unfold stepF
  rw [hw, Option.bind_some, if_pos rfl, if_pos hc, hcal, Option.bind_some]
  dsimp only
  rw [e, Option.bind_some]
  dsimp only
  rw [hp]; rfl

theorem SeqF.callQ {g : FuncId} {args : List AV} {Q : AV → H → Prop} {d : Tmp} (hw : wantedF ops f o = some true) (hc : isCall o.op = true) (hcal : callee f.ev o.op = some (g, args)) (hq : CallsQ X g args h Q) (hd : o.dst = some d) (hlt : d < nt)
    (hr : ∀ v h1, Q v h1 → SeqF X nt c ops (i + 1) rest (f.set d v) h1 K) : SeqF X nt c ops i (o :: rest) f h K := by
  obtain ⟨v, h1, hca, q⟩ := hq
  refine SeqF.call hw hc hcal hca ?_ (hr v h1 q)
  unfold putF
  rw [hd]
  dsimp only
  rw [if_pos hlt]

/-- The first of two by what is needed of it. -/
theorem RunsF.cut {a b : Code} {Q : Ex → FF → H → Prop} (R : FF → H → Prop) (hr : RunsF X nt a f h fun e f' h' => e = .norm ∧ R f' h') (hb : ∀ f' h', R f' h' → RunsF X nt b f' h' Q) : RunsF X nt (.seq a b) f h Q :=
  RunsF.seq (hr.mono fun e f' h' ⟨he, r⟩ => by subst he; exact hb f' h' r)

/-! ### What blocks hold -/
theorem H.load_of {h : H} {b off n : Nat} {bl : List Sc} (hb : h.get b = some bl) (hle : off + n ≤ bl.length) : h.load b off n = some ((bl.drop off).take n) := by
  unfold H.load; rw [hb, Option.bind_some, if_pos hle]
theorem H.store_of {h : H} {b off : Nat} {bl l : List Sc} (hro : h.ro ≤ b) (hb : h.get b = some bl) (hle : off + l.length ≤ bl.length) : h.store b off l = some (h.put b (bl.take off ++ l ++ bl.drop (off + l.length))) := by
  unfold H.store; rw [if_pos hro, hb, Option.bind_some, if_pos hle]
/-- A heap with another next number. -/
theorem H.get_nx (t : Tr (List Sc)) (n r i : Nat) : (H.mk t n r).get i = t.get i := rfl
theorem H.get_tr (h : H) (i : Nat) : h.tr.get i = h.get i := rfl

end
end Go.AM
end
