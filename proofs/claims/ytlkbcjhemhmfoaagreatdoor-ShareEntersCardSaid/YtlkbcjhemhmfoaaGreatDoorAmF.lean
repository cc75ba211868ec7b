/- More blocks, and more fuel: the machine comes to the same, and leaves the further blocks as they are. No program here. -/
import Derived.Test.YtlkbcjhemhmfoaaGreatDoorAmD
set_option linter.unusedSimpArgs false
set_option linter.unusedVariables false
set_option linter.unnecessarySimpa false
namespace Go.AM
open Go

/-- h with the further blocks gB. -/
structure Ext (gB : G) (h hp : H) : Prop where
  nx : hp.nx = h.nx
  ro : hp.ro = h.ro
  get : ∀ i, hp.get i = G.or h.get gB i
  off : ∀ i l, gB i = some l → h.get i = none

section
variable {gB : G}

theorem Ext.has {h hp : H} (x : Ext gB h hp) {i : Nat} {l : List Sc} (e : h.get i = some l) : hp.get i = some l := by
  rw [x.get]; unfold G.or; rw [e]
theorem Ext.noB {h hp : H} (x : Ext gB h hp) {i : Nat} {l : List Sc} (e : h.get i = some l) : gB i = none := by
  cases hb : gB i with
  | none => rfl
  | some y => have := x.off i y hb; rw [e] at this; cases this
theorem Ext.load {h hp : H} (x : Ext gB h hp) {i o n : Nat} {l : List Sc} (e : h.load i o n = some l) : hp.load i o n = some l := by
  obtain ⟨bl, hb, h1, h2⟩ := H.load_get e
  unfold H.load
  rw [x.has hb, Option.bind_some, if_pos h1, h2]
theorem Ext.put {h hp : H} (x : Ext gB h hp) {i : Nat} (l : List Sc) (hb : gB i = none) : Ext gB (h.put i l) (hp.put i l) where
  nx := x.nx
  ro := x.ro
  get j := by
    rw [H.get_put]
    unfold G.or
    rw [H.get_put]
    by_cases e : j = i
    · rw [if_pos e, if_pos e]
    · rw [if_neg e, if_neg e, x.get]; rfl
  off j l' hj := by
    rw [H.get_put, if_neg (fun e => by subst e; rw [hb] at hj; cases hj)]
    exact x.off j l' hj
theorem Ext.kill {h hp : H} (x : Ext gB h hp) {i : Nat} (hb : gB i = none) : Ext gB (h.kill i) (hp.kill i) where
  nx := x.nx
  ro := x.ro
  get j := by
    rw [H.get_kill]
    unfold G.or
    rw [H.get_kill]
    by_cases e : j = i
    · subst e; rw [if_pos rfl, if_pos rfl]; exact hb.symm
    · rw [if_neg e, if_neg e, x.get]; rfl
  off j l' hj := by
    rw [H.get_kill]
    split
    · rfl
    · exact x.off j l' hj
theorem Ext.store {h hp h' : H} (x : Ext gB h hp) {i o : Nat} {xs : List Sc} (e : h.store i o xs = some h') : ∃ hp', hp.store i o xs = some hp' ∧ Ext gB h' hp' := by
  unfold H.store at e ⊢
  rw [x.ro]
  split at e
  · rename_i hro
    simp only [Option.bind_eq_some_iff] at e
    obtain ⟨l, hl, e⟩ := e
    split at e
    · rename_i hle
      simp only [Option.some.injEq] at e
      subst e
      rw [if_pos hro, x.has hl, Option.bind_some, if_pos hle]
      exact ⟨_, rfl, x.put _ (x.noB hl)⟩
    · simp at e
  · simp at e
theorem Ext.setRo {h hp : H} (x : Ext gB h hp) : Ext gB { h with ro := h.nx } { hp with ro := hp.nx } := ⟨x.nx, x.nx, x.get, x.off⟩
theorem Ext.setNx {h hp : H} (x : Ext gB h hp) (n : Nat) : Ext gB { h with nx := h.nx + n } { hp with nx := hp.nx + n } := ⟨by show hp.nx + n = h.nx + n; rw [x.nx], x.ro, x.get, x.off⟩

theorem lenCells_ext {h hp : H} (x : Ext gB h hp) {size : Nat} {v : AV} {r : Nat × List Sc} (e : lenCells h size v = some r) : lenCells hp size v = some r := by
  unfold lenCells at e ⊢
  split at e
  · exact e
  · split at e
    · rename_i hs
      simp only [Option.map_eq_some_iff] at e
      obtain ⟨l, hl, rfl⟩ := e
      simp only [if_pos hs, x.load hl, Option.map_some]
    · simp at e
  · simp at e

theorem abuiltin_ext {X : Env} {h hp h' : H} (x : Ext gB h hp) {id : Nat} (hid : gB id = none) {b : Builtin} {ts : List TypeId} {args : List AV} {v : AV} (ha : abuiltin X h id b ts args = some (v, h')) :
    ∃ hp', abuiltin X hp id b ts args = some (v, hp') ∧ Ext gB h' hp' := by
  unfold abuiltin at ha ⊢
  split at ha
  · split at ha
    · simp only [Option.some.injEq, Prod.mk.injEq] at ha; obtain ⟨rfl, rfl⟩ := ha; simp_all
    · simp only [Option.some.injEq, Prod.mk.injEq] at ha; obtain ⟨rfl, rfl⟩ := ha; simp_all
    · simp at ha
  · split at ha
    · rename_i hty
      try rw [hty]
      try dsimp only at ha ⊢
      split at ha
      · simp at ha
      · rename_i hc
        rw [if_neg hc]
        simp only [Option.bind_eq_some_iff, Prod.exists] at ha
        obtain ⟨n, new, hn, ha⟩ := ha
        rw [lenCells_ext x hn]
        simp only [Option.bind_some]
        split at ha
        · split at ha
          · rename_i h0
            simp only [Option.some.injEq, Prod.mk.injEq] at ha; obtain ⟨rfl, rfl⟩ := ha
            rw [if_pos h0]
            exact ⟨hp, rfl, x⟩
          · rename_i h0
            rw [if_neg h0]
            split at ha
            · rename_i h1
              simp only [Option.some.injEq, Prod.mk.injEq] at ha; obtain ⟨rfl, rfl⟩ := ha
              rw [if_pos h1]
              exact ⟨_, rfl, x.put _ hid⟩
            · simp at ha
        · split at ha
          · rename_i h0
            simp only [Option.some.injEq, Prod.mk.injEq] at ha; obtain ⟨rfl, rfl⟩ := ha
            rw [if_pos h0]
            exact ⟨hp, rfl, x⟩
          · rename_i h0
            rw [if_neg h0]
            split at ha
            · rename_i h1
              rw [if_pos h1]
              simp only [Option.bind_eq_some_iff] at ha
              obtain ⟨old, hold, ha⟩ := ha
              rw [x.load hold]
              simp only [Option.bind_some]
              split at ha
              · rename_i h2
                simp only [Option.some.injEq, Prod.mk.injEq] at ha; obtain ⟨rfl, rfl⟩ := ha
                rw [if_pos h2]
                exact ⟨_, rfl, x.put _ hid⟩
              · rename_i h2
                rw [if_neg h2, x.ro]
                split at ha
                · rename_i h3
                  simp only [Option.some.injEq, Prod.mk.injEq] at ha; obtain ⟨rfl, rfl⟩ := ha
                  rw [if_pos h3]
                  obtain ⟨bl, hb, _⟩ := H.load_get hold
                  exact ⟨_, rfl, (x.kill (x.noB hb)).put _ hid⟩
                · simp at ha
            · simp at ha
        · simp at ha
    · simp at ha
  · split at ha
    · rename_i hty
      try rw [hty]
      try dsimp only at ha ⊢
      split at ha
      · simp only [Option.bind_eq_some_iff, Prod.exists] at ha
        obtain ⟨n, new, hn, ha⟩ := ha
        rw [lenCells_ext x hn]
        simp only [Option.bind_some]
        split at ha
        · rename_i h1
          rw [if_pos h1]
          simp only [Option.map_eq_some_iff, Prod.mk.injEq] at ha
          obtain ⟨h2, hs, rfl, rfl⟩ := ha
          obtain ⟨hp', hs', x'⟩ := x.store hs
          rw [hs']
          exact ⟨hp', rfl, x'⟩
        · simp at ha
      · simp at ha
    · simp at ha
  · split at ha
    · rename_i hty
      simp only [Option.some.injEq, Prod.mk.injEq] at ha; obtain ⟨rfl, rfl⟩ := ha
      try rw [hty]
      exact ⟨hp, rfl, x⟩
    · rename_i hty
      try rw [hty]
      try dsimp only
      split at ha
      · rename_i h0
        simp only [Option.some.injEq, Prod.mk.injEq] at ha; obtain ⟨rfl, rfl⟩ := ha
        rw [if_pos h0]
        exact ⟨hp, rfl, x⟩
      · rename_i h0
        rw [if_neg h0]
        split at ha
        · rename_i h1
          rw [if_pos h1]
          simp only [Option.map_eq_some_iff, Prod.mk.injEq] at ha
          obtain ⟨h2, hs, rfl, rfl⟩ := ha
          obtain ⟨hp', hs', x'⟩ := x.store hs
          rw [hs']
          exact ⟨hp', rfl, x'⟩
        · simp at ha
    · simp at ha
  · simp only [Option.some.injEq, Prod.mk.injEq] at ha; obtain ⟨rfl, rfl⟩ := ha
    exact ⟨hp, rfl, x⟩
  · simp only [Option.some.injEq, Prod.mk.injEq] at ha; obtain ⟨rfl, rfl⟩ := ha
    exact ⟨hp, rfl, x⟩
  · simp at ha

/-- An operation. -/
theorem aop_ext {X : Env} {ev : Operand → AV} {h hp h' : H} (x : Ext gB h hp) {id : Nat} (hid : gB id = none) {op : Op} {v : AV} (ha : aop X ev h id op = some (v, h')) : ∃ hp', aop X ev hp id op = some (v, hp') ∧ Ext gB h' hp' := by
  cases op with
  | alloc t =>
    simp only [aop] at ha ⊢
    split at ha
    · simp at ha
    · rename_i h0
      simp only [Option.some.injEq, Prod.mk.injEq] at ha; obtain ⟨rfl, rfl⟩ := ha
      rw [if_neg h0]
      exact ⟨_, rfl, x.put _ hid⟩
  | box t y =>
    simp only [aop, Option.map_eq_some_iff, Prod.mk.injEq] at ha ⊢
    obtain ⟨l, hl, rfl, rfl⟩ := ha
    exact ⟨_, ⟨l, hl, rfl, rfl⟩, x.put _ hid⟩
  | makeSlice t l c =>
    simp only [aop] at ha ⊢
    split at ha
    · split at ha
      · rename_i h0 h1
        simp only [Option.some.injEq, Prod.mk.injEq] at ha; obtain ⟨rfl, rfl⟩ := ha
        simp only [*, if_true]
        exact ⟨_, rfl, x.put _ hid⟩
      · simp at ha
    · simp at ha
  | buildSlice t n ps =>
    simp only [aop] at ha ⊢
    split at ha
    · rename_i hty
      split at ha
      · rename_i h1
        simp only [Option.map_eq_some_iff, Prod.mk.injEq] at ha
        obtain ⟨l, hl, rfl, rfl⟩ := ha
        try rw [hty]
        try dsimp only
        rw [if_pos h1, hl]
        exact ⟨_, rfl, x.put _ hid⟩
      · simp at ha
    · simp at ha
  | store t y z =>
    simp only [aop] at ha ⊢
    split at ha
    · rename_i hy
      try rw [hy]
      try dsimp only
      split at ha
      · simp at ha
      · rename_i h0
        rw [if_neg h0]
        simp only [Option.bind_eq_some_iff] at ha
        obtain ⟨l, hl, ha⟩ := ha
        rw [hl, Option.bind_some]
        split at ha
        · rename_i h1
          rw [if_pos h1]
          simp only [Option.map_eq_some_iff, Prod.mk.injEq] at ha
          obtain ⟨h2, hs, rfl, rfl⟩ := ha
          obtain ⟨hp', hs', x'⟩ := x.store hs
          rw [hs']
          exact ⟨hp', rfl, x'⟩
        · simp at ha
    · simp at ha
  | call c =>
    obtain ⟨cal, args, tys⟩ := c
    cases cal with
    | builtin b => simp only [aop] at ha ⊢; exact abuiltin_ext x hid ha
    | _ => simp [aop] at ha
  | load t y =>
    simp only [aop] at ha ⊢
    split at ha
    · rename_i hy
      try rw [hy]
      try dsimp only
      split at ha
      · simp at ha
      · rename_i h0
        rw [if_neg h0]
        simp only [Option.bind_eq_some_iff, Option.map_eq_some_iff, Prod.mk.injEq] at ha
        obtain ⟨l, hl, y, hy, rfl, rfl⟩ := ha
        rw [x.load hl, Option.bind_some, hy]
        exact ⟨hp, rfl, x⟩
    · simp at ha
  | slice t y lo hi mx =>
    simp only [aop, Option.map_eq_some_iff, Prod.mk.injEq] at ha ⊢
    obtain ⟨s, hs, rfl, rfl⟩ := ha
    refine ⟨hp, ⟨s, ?_, rfl, rfl⟩, x⟩
    unfold aslice at hs ⊢
    split at hs
    · exact hs
    · exact hs
    · simp only [Option.bind_eq_some_iff, Prod.exists] at hs ⊢
      obtain ⟨l, hh, m, hb, hs⟩ := hs
      refine ⟨l, hh, m, hb, ?_⟩
      try dsimp only at hs ⊢
      split at hs
      · simp at hs
      · rename_i h0
        rw [if_neg h0]
        split at hs
        · rename_i y hl
          rw [x.load hl]
          exact hs
        · simp at hs
    · simp at hs
  | move y | assign y =>
    simp only [aop, Option.some.injEq, Prod.mk.injEq] at ha ⊢
    obtain ⟨rfl, rfl⟩ := ha
    exact ⟨hp, ⟨rfl, rfl⟩, x⟩
  | pick c y z =>
    simp only [aop] at ha ⊢
    split at ha
    · rename_i hc
      simp only [Option.some.injEq, Prod.mk.injEq] at ha
      obtain ⟨rfl, rfl⟩ := ha
      exact ⟨hp, by first | rw [hc] | rfl, x⟩
    · simp at ha
  | nilCheck y =>
    simp only [aop] at ha ⊢
    split at ha
    · rename_i hc
      simp only [Option.some.injEq, Prod.mk.injEq] at ha
      obtain ⟨rfl, rfl⟩ := ha
      exact ⟨hp, by first | rw [hc] | rfl, x⟩
    · rename_i hc
      simp only [Option.some.injEq, Prod.mk.injEq] at ha
      obtain ⟨rfl, rfl⟩ := ha
      exact ⟨hp, by first | rw [hc] | rfl, x⟩
    · simp at ha
  | binOp op t y z ty =>
    simp only [aop, Option.map_eq_some_iff, Prod.mk.injEq] at ha ⊢
    obtain ⟨s, hs, rfl, rfl⟩ := ha
    exact ⟨hp, ⟨s, hs, rfl, rfl⟩, x⟩
  | unOp op t y =>
    simp only [aop, Option.map_eq_some_iff, Prod.mk.injEq] at ha ⊢
    obtain ⟨s, hs, rfl, rfl⟩ := ha
    exact ⟨hp, ⟨s, hs, rfl, rfl⟩, x⟩
  | convert s d y =>
    simp only [aop] at ha ⊢
    split at ha
    · simp only [Option.some.injEq, Prod.mk.injEq] at ha
      obtain ⟨rfl, rfl⟩ := ha
      try simp only [*]
      exact ⟨hp, rfl, x⟩
    · simp at ha
  | makeFunc f first caps =>
    cases f with
    | func g =>
      simp only [aop] at ha ⊢
      split at ha
      · rename_i h0
        simp only [Option.map_eq_some_iff, Prod.mk.injEq] at ha
        obtain ⟨s, hs, rfl, rfl⟩ := ha
        rw [if_pos h0, hs]
        exact ⟨hp, rfl, x⟩
      · simp at ha
    | _ => simp [aop] at ha
  | fieldAddr t y f =>
    simp only [aop] at ha ⊢
    split at ha
    · rename_i h1 h2
      simp only [Option.bind_eq_some_iff, Prod.exists] at ha
      obtain ⟨off, ft, hf, ha⟩ := ha
      split at ha
      · rename_i h3
        simp only [Option.some.injEq, Prod.mk.injEq] at ha
        obtain ⟨rfl, rfl⟩ := ha
        try rw [h1, h2]
        try dsimp only
        rw [hf, Option.bind_some]
        try dsimp only
        rw [if_pos h3]
        exact ⟨hp, rfl, x⟩
      · simp at ha
    · simp at ha
  | field t y f =>
    simp only [aop] at ha ⊢
    split at ha
    · rename_i h1 h2
      simp only [Option.bind_eq_some_iff, Prod.exists] at ha
      obtain ⟨off, ft, hf, ha⟩ := ha
      split at ha
      · rename_i h3
        simp only [Option.map_eq_some_iff, Prod.mk.injEq] at ha
        obtain ⟨s, hs, rfl, rfl⟩ := ha
        try rw [h1, h2]
        try dsimp only
        rw [hf, Option.bind_some]
        try dsimp only
        rw [if_pos h3, hs]
        exact ⟨hp, rfl, x⟩
      · simp at ha
    · simp at ha
  | indexAddr t y i =>
    simp only [aop, Option.map_eq_some_iff, Prod.mk.injEq] at ha ⊢
    obtain ⟨s, hs, rfl, rfl⟩ := ha
    exact ⟨hp, ⟨s, hs, rfl, rfl⟩, x⟩
  | index t y i =>
    simp only [aop] at ha ⊢
    split at ha
    · rename_i h1 h2 h3
      split at ha
      · rename_i h4
        simp only [Option.map_eq_some_iff, Prod.mk.injEq] at ha
        obtain ⟨s, hs, rfl, rfl⟩ := ha
        try rw [h1, h2, h3]
        try dsimp only
        rw [if_pos h4, hs]
        exact ⟨hp, rfl, x⟩
      · simp at ha
    · simp at ha
  | extract y i =>
    simp only [aop] at ha ⊢
    split at ha
    · rename_i h1
      simp only [Option.bind_eq_some_iff, Option.map_eq_some_iff, Prod.mk.injEq] at ha
      obtain ⟨e, he, s, hs, rfl, rfl⟩ := ha
      try rw [h1]
      try dsimp only
      rw [he, Option.bind_some, hs]
      exact ⟨hp, rfl, x⟩
    · simp at ha
  | build t parts =>
    simp only [aop] at ha ⊢
    split at ha
    · rename_i h1
      split at ha
      · rename_i h2
        simp only [Option.map_eq_some_iff, Prod.mk.injEq] at ha
        obtain ⟨s, hs, rfl, rfl⟩ := ha
        try rw [h1]
        try dsimp only
        rw [if_pos h2, hs]
        exact ⟨hp, rfl, x⟩
      · simp at ha
    · simp at ha
  | _ => simp [aop] at ha

end
end Go.AM
