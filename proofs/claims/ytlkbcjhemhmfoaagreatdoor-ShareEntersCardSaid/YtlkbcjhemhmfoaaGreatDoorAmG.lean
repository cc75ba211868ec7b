/- More blocks, and more fuel: regions, calls, whole bodies. No program here. -/
import Derived.Test.YtlkbcjhemhmfoaaGreatDoorAmF
set_option linter.unusedSimpArgs false
set_option linter.unusedVariables false
set_option linter.unnecessarySimpa false
namespace Go.AM
open Go

theorem H.store_nx {h h' : H} {i o : Nat} {xs : List Sc} (hs : h.store i o xs = some h') : h'.nx = h.nx ∧ h'.ro = h.ro := by
  unfold H.store at hs
  split at hs
  · rename_i hro
    simp only [Option.bind_eq_some_iff] at hs
    obtain ⟨l, hl, hs⟩ := hs
    split at hs
    · simp only [Option.some.injEq] at hs
      subst hs
      exact ⟨rfl, rfl⟩
    · simp at hs
  · simp at hs

theorem abuiltin_nx {X : Env} {h h' : H} {id : Nat} {b : Builtin} {ts : List TypeId} {args : List AV} {v : AV} (ha : abuiltin X h id b ts args = some (v, h')) : h'.nx = h.nx ∧ h'.ro = h.ro := by
  unfold abuiltin at ha
  split at ha
  · split at ha <;> simp at ha <;> (rw [← ha.2]; exact ⟨rfl, rfl⟩)
  · split at ha
    · dsimp only at ha
      split at ha
      · simp at ha
      · simp only [Option.bind_eq_some_iff, Prod.exists] at ha
        obtain ⟨n, new, _, ha⟩ := ha
        split at ha
        · split at ha
          · simp at ha; (rw [← ha.2]; exact ⟨rfl, rfl⟩)
          · split at ha
            · simp at ha; rw [← ha.2]; exact ⟨rfl, rfl⟩
            · simp at ha
        · split at ha
          · simp at ha; (rw [← ha.2]; exact ⟨rfl, rfl⟩)
          · split at ha
            · simp only [Option.bind_eq_some_iff] at ha
              obtain ⟨old, _, ha⟩ := ha
              split at ha
              · simp at ha; rw [← ha.2]; exact ⟨rfl, rfl⟩
              · split at ha
                · simp at ha; rw [← ha.2]; exact ⟨rfl, rfl⟩
                · simp at ha
            · simp at ha
        · simp at ha
    · simp at ha
  · split at ha
    · dsimp only at ha
      split at ha
      · simp only [Option.bind_eq_some_iff, Prod.exists] at ha
        obtain ⟨n, new, _, ha⟩ := ha
        split at ha
        · simp only [Option.map_eq_some_iff, Prod.mk.injEq] at ha
          obtain ⟨h1, hs, _, rfl⟩ := ha
          exact H.store_nx hs
        · simp at ha
      · simp at ha
    · simp at ha
  · split at ha
    · simp at ha; (rw [← ha.2]; exact ⟨rfl, rfl⟩)
    · split at ha
      · simp at ha; (rw [← ha.2]; exact ⟨rfl, rfl⟩)
      · split at ha
        · simp only [Option.map_eq_some_iff, Prod.mk.injEq] at ha
          obtain ⟨h1, hs, _, rfl⟩ := ha
          exact H.store_nx hs
        · simp at ha
    · simp at ha
  · simp at ha; (rw [← ha.2]; exact ⟨rfl, rfl⟩)
  · simp at ha; (rw [← ha.2]; exact ⟨rfl, rfl⟩)
  · simp at ha

theorem aop_nx {X : Env} {ev : Operand → AV} {h h' : H} {id : Nat} {op : Op} {v : AV} (ha : aop X ev h id op = some (v, h')) : h'.nx = h.nx ∧ h'.ro = h.ro := by
  cases op with
  | alloc t => simp only [aop] at ha; split at ha <;> simp at ha; rw [← ha.2]; exact ⟨rfl, rfl⟩
  | box t x => simp only [aop, Option.map_eq_some_iff, Prod.mk.injEq] at ha; obtain ⟨l, _, _, rfl⟩ := ha; exact ⟨rfl, rfl⟩
  | makeSlice t l c =>
    simp only [aop] at ha
    split at ha
    · split at ha <;> simp at ha
      rw [← ha.2]; exact ⟨rfl, rfl⟩
    · simp at ha
  | buildSlice t n ps =>
    simp only [aop] at ha
    split at ha
    · split at ha
      · simp only [Option.map_eq_some_iff, Prod.mk.injEq] at ha
        obtain ⟨l, _, _, rfl⟩ := ha; exact ⟨rfl, rfl⟩
      · simp at ha
    · simp at ha
  | store t x y =>
    simp only [aop] at ha
    split at ha
    · split at ha
      · simp at ha
      · simp only [Option.bind_eq_some_iff] at ha
        obtain ⟨l, _, ha⟩ := ha
        split at ha
        · simp only [Option.map_eq_some_iff, Prod.mk.injEq] at ha
          obtain ⟨h1, hs, _, rfl⟩ := ha
          exact H.store_nx hs
        · simp at ha
    · simp at ha
  | call c =>
    obtain ⟨cal, args, tys⟩ := c
    cases cal with
    | builtin b => simp only [aop] at ha; exact abuiltin_nx ha
    | _ => simp [aop] at ha
  | move x => simp [aop] at ha; (rw [← ha.2]; exact ⟨rfl, rfl⟩)
  | assign x => simp [aop] at ha; (rw [← ha.2]; exact ⟨rfl, rfl⟩)
  | pick c x y => simp only [aop] at ha; split at ha <;> simp at ha; (rw [← ha.2]; exact ⟨rfl, rfl⟩)
  | load t x =>
    simp only [aop] at ha
    split at ha
    · split at ha
      · simp at ha
      · simp only [Option.bind_eq_some_iff, Option.map_eq_some_iff, Prod.mk.injEq] at ha
        obtain ⟨_, _, _, _, _, rfl⟩ := ha; exact ⟨rfl, rfl⟩
    · simp at ha
  | nilCheck x => simp only [aop] at ha; split at ha <;> simp at ha <;> (rw [← ha.2]; exact ⟨rfl, rfl⟩)
  | binOp op t x y ty => simp only [aop, Option.map_eq_some_iff, Prod.mk.injEq] at ha; obtain ⟨_, _, _, rfl⟩ := ha; exact ⟨rfl, rfl⟩
  | unOp op t x => simp only [aop, Option.map_eq_some_iff, Prod.mk.injEq] at ha; obtain ⟨_, _, _, rfl⟩ := ha; exact ⟨rfl, rfl⟩
  | convert s d x => simp only [aop] at ha; split at ha <;> simp at ha; (rw [← ha.2]; exact ⟨rfl, rfl⟩)
  | makeFunc f first caps =>
    cases f with
    | func g =>
      simp only [aop] at ha
      split at ha
      · simp only [Option.map_eq_some_iff, Prod.mk.injEq] at ha; obtain ⟨_, _, _, rfl⟩ := ha; exact ⟨rfl, rfl⟩
      · simp at ha
    | _ => simp [aop] at ha
  | slice t x lo hi mx => simp only [aop, Option.map_eq_some_iff, Prod.mk.injEq] at ha; obtain ⟨_, _, _, rfl⟩ := ha; exact ⟨rfl, rfl⟩
  | fieldAddr t x f =>
    simp only [aop] at ha
    split at ha
    · simp only [Option.bind_eq_some_iff, Prod.exists] at ha
      obtain ⟨_, _, _, ha⟩ := ha
      split at ha <;> simp at ha
      (rw [← ha.2]; exact ⟨rfl, rfl⟩)
    · simp at ha
  | field t x f =>
    simp only [aop] at ha
    split at ha
    · simp only [Option.bind_eq_some_iff, Prod.exists] at ha
      obtain ⟨_, _, _, ha⟩ := ha
      split at ha
      · simp only [Option.map_eq_some_iff, Prod.mk.injEq] at ha; obtain ⟨_, _, _, rfl⟩ := ha; exact ⟨rfl, rfl⟩
      · simp at ha
    · simp at ha
  | indexAddr t x i => simp only [aop, Option.map_eq_some_iff, Prod.mk.injEq] at ha; obtain ⟨_, _, _, rfl⟩ := ha; exact ⟨rfl, rfl⟩
  | index t x i =>
    simp only [aop] at ha
    split at ha
    · split at ha
      · simp only [Option.map_eq_some_iff, Prod.mk.injEq] at ha; obtain ⟨_, _, _, rfl⟩ := ha; exact ⟨rfl, rfl⟩
      · simp at ha
    · simp at ha
  | extract x i =>
    simp only [aop] at ha
    split at ha
    · simp only [Option.bind_eq_some_iff, Option.map_eq_some_iff, Prod.mk.injEq] at ha
      obtain ⟨_, _, _, _, _, rfl⟩ := ha; exact ⟨rfl, rfl⟩
    · simp at ha
  | build t parts =>
    simp only [aop] at ha
    split at ha
    · split at ha
      · simp only [Option.map_eq_some_iff, Prod.mk.injEq] at ha; obtain ⟨_, _, _, rfl⟩ := ha; exact ⟨rfl, rfl⟩
      · simp at ha
    · simp at ha
  | _ => simp [aop] at ha


/-- One way of calling comes to no less than another one, and leaves further blocks alone. -/
def CFle (cf cf' : CallF) : Prop := ∀ f args h v h', cf f args h = some (v, h') → h.nx ≤ h'.nx ∧ ∀ gB hp, Ext gB h hp → (∀ i l, gB i = some l → i < h.nx) → ∃ hp', cf' f args hp = some (v, hp') ∧ Ext gB h' hp'

section
variable {X : Env} {cf cf' : CallF} {nt c : Nat} {ops : List Oper}

theorem below_none {gB : G} {c : Nat} (hB : ∀ i l, gB i = some l → i < c) {i : Nat} (hi : c ≤ i) : gB i = none := by
  cases h : gB i with
  | none => rfl
  | some l => have := hB i l h; omega

theorem stepA_ext (hcf : CFle cf cf') {i : Nat} {o : Oper} {fr fr' : Fr} {h h' : H} (hs : stepA X cf nt c ops i o fr h = some (fr', h')) :
    h.nx ≤ h'.nx ∧ ∀ gB hp, Ext gB h hp → (∀ i l, gB i = some l → i < c) → c ≤ h.nx → ∃ hp', stepA X cf' nt c ops i o fr hp = some (fr', hp') ∧ Ext gB h' hp' := by
  unfold stepA at hs ⊢
  simp only [Option.bind_eq_some_iff] at hs
  obtain ⟨b, hb, hs⟩ := hs
  simp only [hb, Option.bind_some]
  cases b with
  | false =>
    simp only [Bool.false_eq_true, if_false, Option.map_eq_some_iff, Prod.mk.injEq] at hs ⊢
    obtain ⟨f1, hp, rfl, rfl⟩ := hs
    exact ⟨Nat.le_refl _, fun gB hq x _ _ => ⟨hq, ⟨f1, hp, rfl, rfl⟩, x⟩⟩
  | true =>
    simp only [if_true] at hs ⊢
    split at hs
    · rename_i hc
      simp only [hc, if_true]
      simp only [Option.bind_eq_some_iff, Option.map_eq_some_iff, Prod.exists, Prod.mk.injEq] at hs
      obtain ⟨g, args, hcal, v, h1, hcall, f1, hp, rfl, rfl⟩ := hs
      obtain ⟨n1, n2⟩ := hcf _ _ _ _ _ hcall
      refine ⟨n1, fun gB hq x hB hc' => ?_⟩
      obtain ⟨hq', e, x'⟩ := n2 gB hq x fun i l hl => by have := hB i l hl; omega
      refine ⟨hq', ?_, x'⟩
      rw [hcal, Option.bind_some]
      dsimp only
      rw [e, Option.bind_some]
      dsimp only
      rw [hp]; rfl
    · rename_i hc
      simp only [if_neg hc]
      simp only [Option.bind_eq_some_iff, Option.map_eq_some_iff, Prod.exists, Prod.mk.injEq] at hs
      obtain ⟨v, h1, hop, f1, hp, rfl, rfl⟩ := hs
      refine ⟨by rw [(aop_nx hop).1]; exact Nat.le_refl _, fun gB hq x hB hc' => ?_⟩
      obtain ⟨hq', e, x'⟩ := aop_ext x (below_none hB (by omega)) hop
      refine ⟨hq', ?_, x'⟩
      rw [e, Option.bind_some]
      dsimp only
      rw [hp]; rfl

theorem seqA_ext (hcf : CFle cf cf') : ∀ (rest : List Oper) (i : Nat) {fr fr' : Fr} {h h' : H}, seqA X cf nt c ops i rest fr h = some (fr', h') →
    h.nx ≤ h'.nx ∧ ∀ gB hp, Ext gB h hp → (∀ i l, gB i = some l → i < c) → c ≤ h.nx → ∃ hp', seqA X cf' nt c ops i rest fr hp = some (fr', hp') ∧ Ext gB h' hp'
  | [], i, fr, fr', h, h', hs => by
    simp only [seqA, Option.some.injEq, Prod.mk.injEq] at hs ⊢
    obtain ⟨rfl, rfl⟩ := hs
    exact ⟨Nat.le_refl _, fun gB hp x _ _ => ⟨hp, ⟨rfl, rfl⟩, x⟩⟩
  | o :: rest, i, fr, fr', h, h', hs => by
    simp only [seqA, Option.bind_eq_some_iff, Prod.exists] at hs
    obtain ⟨f1, h1, hs1, hs⟩ := hs
    obtain ⟨n1, n2⟩ := stepA_ext hcf hs1
    obtain ⟨m1, m2⟩ := seqA_ext hcf rest (i + 1) hs
    refine ⟨Nat.le_trans n1 m1, fun gB hp x hB hc => ?_⟩
    obtain ⟨hp1, e1, x1⟩ := n2 gB hp x hB hc
    obtain ⟨hp2, e2, x2⟩ := m2 gB hp1 x1 hB (Nat.le_trans hc n1)
    refine ⟨hp2, ?_, x2⟩
    simp only [seqA]
    rw [e1, Option.bind_some]
    exact e2

theorem Ext.mask {gB : G} {h hp : H} (hB : ∀ i l, gB i = some l → i < c) : ∀ (l : List Nat) {h hp : H}, Ext gB h hp → Ext gB (maskH h c l) (maskH hp c l)
  | [], _, _, x => x
  | j :: l, _, _, x => Ext.mask (h := h) (hp := hp) hB l (x.kill (below_none hB (by omega)))
theorem Ext.unmask {gB : G} {h hp : H} (hB : ∀ i l, gB i = some l → i < c) (x : Ext gB h hp) : ∀ (l : List Nat) {h' hp' : H}, Ext gB h' hp' → Ext gB (unmaskH h c l h') (unmaskH hp c l hp')
  | [], _, _, y => y
  | j :: l, h', hp', y => by
    rw [unmaskH, unmaskH]
    have hn : gB (c + j) = none := below_none hB (by omega)
    have e : hp.get (c + j) = h.get (c + j) := by rw [x.get]; unfold G.or; cases h.get (c + j) with | none => exact hn | some _ => rfl
    rw [e]
    refine Ext.unmask hB x l ?_
    cases h.get (c + j) with
    | none => exact y.kill hn
    | some z => exact y.put z hn

theorem sameLoads_ext {gB : G} {h hp : H} (x : Ext gB h hp) {b : Nat} : ∀ {sp : List Lo}, sameLoads b h sp = true → sameLoads b hp sp = true
  | [], _ => rfl
  | s :: sp, e => by
    simp only [sameLoads, allB, Bool.and_eq_true, Bool.or_eq_true, decide_eq_true_eq] at e ⊢
    exact ⟨e.1.imp id fun h => x.load h, sameLoads_ext x (sp := sp) e.2⟩

def SnR (gB : G) (s s' : Sn) : Prop := s'.k = s.k ∧ Ext gB s.h s'.h
theorem sameBefore_ext {gB : G} {bi b o : Nat} {l : List Sc} : ∀ {ss ss' : List Sn}, LR (SnR gB) ss ss' → sameBefore bi b o l ss = true → sameBefore bi b o l ss' = true
  | [], [], _, _ => rfl
  | s :: ss, s' :: ss', h, e => by
    simp only [sameBefore, allB, Bool.and_eq_true, Bool.or_eq_true, decide_eq_true_eq] at e ⊢
    refine ⟨?_, sameBefore_ext (ss := ss) h.2 e.2⟩
    rw [h.1.1]
    exact e.1.imp id fun hl => h.1.2.load hl
  | [], _ :: _, h, _ => h.elim
  | _ :: _, [], h, _ => h.elim

theorem drawStep_ext (hcf : CFle cf cf') {bs : List Nat} {i : Nat} {o : Oper} {fr fr' : Fr} {h h' : H} {sp sp' : List Lo} {ss ss' : List Sn} (hs : drawStep X cf nt c ops bs i o fr h sp ss = some (fr', h', sp', ss')) :
    h.nx ≤ h'.nx ∧ ∀ gB hp sq, Ext gB h hp → LR (SnR gB) ss sq → (∀ i l, gB i = some l → i < c) → c ≤ h.nx → ∃ hp' sq', drawStep X cf' nt c ops bs i o fr hp sp sq = some (fr', hp', sp', sq') ∧ Ext gB h' hp' ∧ LR (SnR gB) ss' sq' := by
  unfold drawStep at hs ⊢
  simp only [Option.bind_eq_some_iff] at hs
  obtain ⟨b, hb, hs⟩ := hs
  simp only [hb, Option.bind_some]
  cases b with
  | false =>
    simp only [Bool.false_eq_true, if_false, Option.map_eq_some_iff, Prod.mk.injEq] at hs ⊢
    obtain ⟨f1, hp, rfl, rfl, rfl, rfl⟩ := hs
    exact ⟨Nat.le_refl _, fun gB hq sq x y _ _ => ⟨hq, sq, ⟨f1, hp, rfl, rfl, rfl, rfl⟩, x, y⟩⟩
  | true =>
    simp only [if_true] at hs ⊢
    by_cases hw : isW X o.op = true
    · simp only [hw, if_true] at hs ⊢
      simp only [Option.bind_eq_some_iff, Prod.exists] at hs
      obtain ⟨v, h1, hop, hs⟩ := hs
      split at hs
      · rename_i hsl
        simp only [Option.map_eq_some_iff, Prod.mk.injEq] at hs
        obtain ⟨f1, hp, rfl, rfl, rfl, rfl⟩ := hs
        obtain ⟨m1, m2⟩ := maskH_nx c (maskOf ops (bs.getD i 0)) h
        obtain ⟨k1, k2⟩ := unmaskH_nx h c (maskOf ops (bs.getD i 0)) h1
        have key : (maskH h c (maskOf ops (bs.getD i 0))).nx ≤ h1.nx ∧ ∀ gB hq, Ext gB (maskH h c (maskOf ops (bs.getD i 0))) hq → (∀ i l, gB i = some l → i < c) → c ≤ h.nx →
            ∃ hq', (if isCall o.op = true then (callee fr.ev o.op).bind fun (g, args) => cf' g args hq else aop X fr.ev hq (c + i) o.op) = some (v, hq') ∧ Ext gB h1 hq' := by
          split at hop
          · rename_i hc
            simp only [Option.bind_eq_some_iff, Prod.exists] at hop
            obtain ⟨g, args, hcal, hcall⟩ := hop
            obtain ⟨n1, n2⟩ := hcf _ _ _ _ _ hcall
            refine ⟨n1, fun gB hq x hB hc' => ?_⟩
            obtain ⟨hq', e, x'⟩ := n2 gB hq x fun i l hl => by have := hB i l hl; omega
            exact ⟨hq', by rw [if_pos hc, hcal, Option.bind_some]; exact e, x'⟩
          · rename_i hc
            refine ⟨by rw [(aop_nx hop).1]; exact Nat.le_refl _, fun gB hq x hB hc' => ?_⟩
            obtain ⟨hq', e, x'⟩ := aop_ext x (below_none hB (by omega)) hop
            exact ⟨hq', by rw [if_neg hc]; exact e, x'⟩
        refine ⟨by rw [k1]; omega, fun gB hq sq x y hB hc => ?_⟩
        obtain ⟨hq', e, x'⟩ := key.2 gB _ (Ext.mask (h := h) (hp := hq) hB (maskOf ops (bs.getD i 0)) x) hB hc
        have xu := Ext.unmask hB x (maskOf ops (bs.getD i 0)) x'
        refine ⟨_, ⟨i, hq⟩ :: sq, ?_, xu, ⟨⟨rfl, x⟩, y⟩⟩
        rw [e, Option.bind_some]
        dsimp only
        rw [if_pos (sameLoads_ext xu hsl), hp]; rfl
      · simp at hs
    · simp only [hw, Bool.false_eq_true, if_false] at hs ⊢
      by_cases hc : isCall o.op = true
      · simp only [hc, if_true] at hs ⊢
        simp only [Option.bind_eq_some_iff, Prod.exists] at hs
        obtain ⟨g, args, hcal, v, h1, hcall, hs⟩ := hs
        split at hs
        · rename_i hflat
          simp only [Option.map_eq_some_iff, Prod.mk.injEq] at hs
          obtain ⟨f1, hp, rfl, rfl, rfl, rfl⟩ := hs
          obtain ⟨n1, n2⟩ := hcf _ _ _ _ _ hcall
          obtain ⟨m1, m2⟩ := maskH_nx c (maskOf ops (bs.getD i 0)) h
          refine ⟨Nat.le_refl _, fun gB hq sq x y hB hc' => ?_⟩
          obtain ⟨hq', e, x'⟩ := n2 gB _ (Ext.mask (h := h) (hp := hq) hB (maskOf ops (bs.getD i 0)) x).setRo fun i l hl => by
            have := hB i l hl
            show i < (maskH h c (maskOf ops (bs.getD _ 0))).nx
            omega
          refine ⟨hq, sq, ?_, x, y⟩
          rw [hcal, Option.bind_some]
          dsimp only
          rw [e, Option.bind_some]
          dsimp only
          rw [if_pos hflat, hp]; rfl
        · simp at hs
      · simp only [hc, Bool.false_eq_true, if_false] at hs ⊢
        by_cases hN : isN o.op = true
        · simp only [hN, if_true] at hs ⊢
          simp only [Option.bind_eq_some_iff, Option.map_eq_some_iff, Prod.exists, Prod.mk.injEq] at hs
          obtain ⟨v, he, hop, l, hl, f1, hp, rfl, rfl, rfl, rfl⟩ := hs
          refine ⟨Nat.le_refl _, fun gB hq sq x y hB hc' => ⟨hq.put (c + i) l, sq, ?_, x.put l (below_none hB (by omega)), y⟩⟩
          rw [hop, Option.bind_some]
          dsimp only
          rw [hl, Option.bind_some, hp]; rfl
        · simp only [hN, Bool.false_eq_true, if_false] at hs ⊢
          split at hs
          · rename_i t y' hopx
            split at hs
            · rename_i b' off hev
              split at hs
              · simp at hs
              · rename_i hty
                split at hs
                · rename_i hcond
                  simp only [Option.bind_eq_some_iff] at hs
                  obtain ⟨l, hl, hs⟩ := hs
                  split at hs
                  · rename_i hsb
                    simp only [Option.bind_eq_some_iff, Option.map_eq_some_iff, Prod.mk.injEq] at hs
                    obtain ⟨v, hv, f1, hp, rfl, rfl, rfl, rfl⟩ := hs
                    refine ⟨Nat.le_refl _, fun gB hq sq x y hB hc' => ⟨hq, sq, ?_, x, y⟩⟩
                    simp only [hev, if_neg hty, if_pos hcond, x.load hl, Option.bind_some, sameBefore_ext y hsb, if_true, hv, hp, Option.map_some]
                  · simp at hs
                · simp at hs
            · simp at hs
          · rename_i hno
            simp only [Option.bind_eq_some_iff, Option.map_eq_some_iff, Prod.exists, Prod.mk.injEq] at hs
            obtain ⟨v, he, hop, f1, hp, rfl, rfl, rfl, rfl⟩ := hs
            refine ⟨Nat.le_refl _, fun gB hq sq x y hB hc' => ⟨hq, sq, ?_, x, y⟩⟩
            rw [hop, Option.bind_some]
            dsimp only
            rw [hp]; rfl

theorem drawA_ext (hcf : CFle cf cf') {bs : List Nat} : ∀ (rest : List Oper) (i : Nat) {fr fr' : Fr} {h h' : H} {sp : List Lo} {ss : List Sn}, drawA X cf nt c ops bs i rest fr h sp ss = some (fr', h') →
    h.nx ≤ h'.nx ∧ ∀ gB hp sq, Ext gB h hp → LR (SnR gB) ss sq → (∀ i l, gB i = some l → i < c) → c ≤ h.nx → ∃ hp', drawA X cf' nt c ops bs i rest fr hp sp sq = some (fr', hp') ∧ Ext gB h' hp'
  | [], i, fr, fr', h, h', sp, ss, hs => by
    simp only [drawA, Option.some.injEq, Prod.mk.injEq] at hs ⊢
    obtain ⟨rfl, rfl⟩ := hs
    exact ⟨Nat.le_refl _, fun gB hp sq x _ _ _ => ⟨hp, ⟨rfl, rfl⟩, x⟩⟩
  | o :: rest, i, fr, fr', h, h', sp, ss, hs => by
    simp only [drawA, Option.bind_eq_some_iff, Prod.exists] at hs
    obtain ⟨f1, h1, sp1, ss1, hs1, hs⟩ := hs
    obtain ⟨n1, n2⟩ := drawStep_ext hcf hs1
    obtain ⟨m1, m2⟩ := drawA_ext hcf rest (i + 1) hs
    refine ⟨Nat.le_trans n1 m1, fun gB hp sq x y hB hc => ?_⟩
    obtain ⟨hp1, sq1, e1, x1, y1⟩ := n2 gB hp sq x y hB hc
    obtain ⟨hp2, e2, x2⟩ := m2 gB hp1 sq1 x1 y1 hB (Nat.le_trans hc n1)
    refine ⟨hp2, ?_, x2⟩
    simp only [drawA]
    rw [e1, Option.bind_some]
    exact e2

theorem regionA_ext (hcf : CFle cf cf') {ops : Array Oper} {draw : Bool} {fr fr' : Fr} {h h' : H} (hs : regionA X cf nt ops draw fr h = some (fr', h')) :
    h.nx ≤ h'.nx ∧ ∀ gB hp, Ext gB h hp → (∀ i l, gB i = some l → i < h.nx) → ∃ hp', regionA X cf' nt ops draw fr hp = some (fr', hp') ∧ Ext gB h' hp' := by
  unfold regionA at hs ⊢
  dsimp only at hs ⊢
  split at hs
  · rename_i hd
    simp only [hd, if_true]
    split at hs
    · rename_i hok
      obtain ⟨n1, n2⟩ := drawA_ext hcf ops.toList 0 hs
      have n1' : h.nx + ops.toList.length ≤ h'.nx := n1
      refine ⟨by omega, fun gB hp x hB => ?_⟩
      obtain ⟨hp', e, x'⟩ := n2 gB _ [] (x.setNx ops.toList.length) trivial hB (Nat.le_add_right _ _)
      exact ⟨hp', by simp only [hok, if_true, x.nx] at e ⊢; exact e, x'⟩
    · simp at hs
  · rename_i hd
    obtain ⟨n1, n2⟩ := seqA_ext hcf ops.toList 0 hs
    have n1' : h.nx + ops.toList.length ≤ h'.nx := n1
    refine ⟨by omega, fun gB hp x hB => ?_⟩
    obtain ⟨hp', e, x'⟩ := n2 gB _ (x.setNx ops.toList.length) hB (Nat.le_add_right _ _)
    exact ⟨hp', by simp only [hd, Bool.false_eq_true, if_false, x.nx] at e ⊢; exact e, x'⟩

theorem resultA_ext {gB : G} {h hp : H} (x : Ext gB h hp) {fr : Fr} {r : ResultVar} {e : Bool × List Sc} (hr : resultA X fr h r = some e) : resultA X fr hp r = some e := by
  cases r with
  | tmp t => exact hr
  | cell a t =>
    simp only [resultA] at hr ⊢
    split at hr
    · rename_i hev
      try rw [hev]
      try dsimp only
      split at hr
      · simp at hr
      · rename_i hty
        simp only [Option.bind_eq_some_iff] at hr
        obtain ⟨l, hl, y, hy, hr⟩ := hr
        rw [if_neg hty, x.load hl, Option.bind_some, hy, Option.bind_some]
        exact hr
    · simp at hr

theorem allSome_of {α β : Type} {f g : α → Option β} : ∀ {l : List α} {r : List β}, (∀ x ∈ l, ∀ y, f x = some y → g x = some y) → allSome (l.map f) = some r → allSome (l.map g) = some r
  | [], r, _, h => h
  | x :: l, r, hm, h => by
    simp only [List.map_cons, allSome, Option.bind_eq_some_iff, Option.map_eq_some_iff] at h ⊢
    obtain ⟨y, hy, r', hr, rfl⟩ := h
    exact ⟨y, hm x (by simp) y hy, r', allSome_of (fun z hz => hm z (by simp [hz])) hr, rfl⟩

theorem resultsA_ext {gB : G} {h hp : H} (x : Ext gB h hp) {fn : Func} {fr : Fr} {v : AV} (hr : resultsA X fn fr h = some v) : resultsA X fn fr hp = some v := by
  unfold resultsA at hr ⊢
  simp only [Option.bind_eq_some_iff] at hr ⊢
  obtain ⟨l, hl, hr⟩ := hr
  exact ⟨l, allSome_of (fun r _ y hy => resultA_ext x hy) hl, hr⟩

def RunLe (X : Env) (n m : Nat) : Prop := ∀ nt c fr h e fr' h', runA X n nt c fr h = some (e, fr', h') → h.nx ≤ h'.nx ∧ ∀ gB hp, Ext gB h hp → (∀ i l, gB i = some l → i < h.nx) → ∃ hp', runA X m nt c fr hp = some (e, fr', hp') ∧ Ext gB h' hp'

theorem callA_le {n m : Nat} (hr : RunLe X n m) : CFle (callA X (runA X n)) (callA X (runA X m)) := by
  intro f args h v h' hc
  unfold callA at hc ⊢
  split at hc
  · rename_i g hg
    simp only [Option.bind_eq_some_iff] at hc
    obtain ⟨v0, hv0, hc⟩ := hc
    split at hc
    · rename_i hflat
      simp only [Option.some.injEq, Prod.mk.injEq] at hc
      obtain ⟨rfl, rfl⟩ := hc
      exact ⟨Nat.le_refl _, fun gB hp x _ => ⟨hp, by simp only [hg, hv0, Option.bind_some, hflat, if_true], x⟩⟩
    · simp at hc
  · rename_i hg
    simp only [Option.bind_eq_some_iff] at hc
    obtain ⟨fn, hfn, c, hbody, hc⟩ := hc
    split at hc
    · rename_i hlen
      simp only [Option.bind_eq_some_iff, Prod.exists] at hc
      obtain ⟨e, fr, h1, hrun, hc⟩ := hc
      obtain ⟨n1, n2⟩ := hr _ _ _ _ _ _ _ hrun
      have hres : (e = .norm ∨ e = .ret) ∧ resultsA X fn fr h1 = some v ∧ h1 = h' := by
        cases e with
        | norm => simp only [Option.map_eq_some_iff, Prod.mk.injEq] at hc; obtain ⟨_, h1, rfl, rfl⟩ := hc; exact ⟨.inl rfl, h1, rfl⟩
        | ret => simp only [Option.map_eq_some_iff, Prod.mk.injEq] at hc; obtain ⟨_, h1, rfl, rfl⟩ := hc; exact ⟨.inr rfl, h1, rfl⟩
        | exit id => simp at hc
      obtain ⟨he, hres, rfl⟩ := hres
      refine ⟨n1, fun gB hp x hB => ?_⟩
      obtain ⟨hp', er, x'⟩ := n2 gB hp x hB
      refine ⟨hp', ?_, x'⟩
      simp only [hg, hfn, Option.bind_some, hbody, if_pos hlen, er]
      rcases he with rfl | rfl <;> simp only [resultsA_ext x' hres, Option.map_some]
    · simp at hc

theorem runA_le : ∀ n m, n ≤ m → RunLe X n m := by
  intro n
  induction n with
  | zero => intro m _ nt c fr h e fr' h' hr; simp [runA] at hr
  | succ n ih =>
    intro m hm
    obtain ⟨m, rfl⟩ : ∃ k, m = k + 1 := ⟨m - 1, by omega⟩
    have ih := ih m (by omega)
    have hcf := callA_le ih
    intro nt c fr h e fr' h' hr
    -- two runs, one behind the other
    have two : ∀ {x y : Code} {f1 h1 e f2 h2}, runA X n nt x fr h = some (.norm, f1, h1) → runA X n nt y f1 h1 = some (e, f2, h2) → h.nx ≤ h2.nx ∧ ∀ gB hp, Ext gB h hp → (∀ i l, gB i = some l → i < h.nx) →
        ∃ hp1 hp2, runA X m nt x fr hp = some (.norm, f1, hp1) ∧ runA X m nt y f1 hp1 = some (e, f2, hp2) ∧ Ext gB h2 hp2 := fun {x y f1 h1 e f2 h2} hx hy => by
      obtain ⟨n1, n2⟩ := ih _ _ _ _ _ _ _ hx
      obtain ⟨m1, m2⟩ := ih _ _ _ _ _ _ _ hy
      refine ⟨Nat.le_trans n1 m1, fun gB hp x hB => ?_⟩
      obtain ⟨hp1, e1, x1⟩ := n2 gB hp x hB
      obtain ⟨hp2, e2, x2⟩ := m2 gB hp1 x1 fun i l hl => Nat.lt_of_lt_of_le (hB i l hl) n1
      exact ⟨hp1, hp2, e1, e2, x2⟩
    cases c with
    | skip | label | exit | ret =>
      simp only [runA, Option.some.injEq, Prod.mk.injEq] at hr ⊢
      obtain ⟨rfl, rfl, rfl⟩ := hr
      exact ⟨Nat.le_refl _, fun gB hp x _ => ⟨hp, ⟨rfl, rfl, rfl⟩, x⟩⟩
    | region id ops draw =>
      simp only [runA, Option.map_eq_some_iff, Prod.mk.injEq, Prod.exists] at hr ⊢
      obtain ⟨f1, h1, hreg, rfl, rfl, rfl⟩ := hr
      obtain ⟨n1, n2⟩ := regionA_ext hcf hreg
      refine ⟨n1, fun gB hp x hB => ?_⟩
      obtain ⟨hp', e, x'⟩ := n2 gB hp x hB
      exact ⟨hp', ⟨f1, hp', e, rfl, rfl, rfl⟩, x'⟩
    | seq x y =>
      simp only [runA] at hr ⊢
      split at hr
      · rename_i f1 h1 hx
        obtain ⟨n1, n2⟩ := two hx hr
        refine ⟨n1, fun gB hp x hB => ?_⟩
        obtain ⟨hp1, hp2, e1, e2, x2⟩ := n2 gB hp x hB
        exact ⟨hp2, by rw [e1]; exact e2, x2⟩
      · rename_i hne
        obtain ⟨n1, n2⟩ := ih _ _ _ _ _ _ _ hr
        refine ⟨n1, fun gB hp x hB => ?_⟩
        obtain ⟨hp1, e1, x1⟩ := n2 gB hp x hB
        refine ⟨hp1, ?_, x1⟩
        rw [e1]
        cases e with
        | norm => exact absurd hr (hne fr' h')
        | exit id => rfl
        | ret => rfl
    | cond b x y =>
      simp only [runA] at hr ⊢
      split at hr
      · rename_i t ht
        try rw [ht]
        exact ih _ _ _ _ _ _ _ hr
      · simp at hr
    | block id b =>
      simp only [runA] at hr ⊢
      split at hr
      · rename_i j f1 h1 hx
        obtain ⟨n1, n2⟩ := ih _ _ _ _ _ _ _ hx
        split at hr
        · rename_i hj
          simp only [Option.some.injEq, Prod.mk.injEq] at hr
          obtain ⟨rfl, rfl, rfl⟩ := hr
          refine ⟨n1, fun gB hp x hB => ?_⟩
          obtain ⟨hp1, e1, x1⟩ := n2 gB hp x hB
          exact ⟨hp1, by rw [e1]; dsimp only; rw [if_pos hj], x1⟩
        · rename_i hj
          simp only [Option.some.injEq, Prod.mk.injEq] at hr
          obtain ⟨rfl, rfl, rfl⟩ := hr
          refine ⟨n1, fun gB hp x hB => ?_⟩
          obtain ⟨hp1, e1, x1⟩ := n2 gB hp x hB
          exact ⟨hp1, by rw [e1]; dsimp only; rw [if_neg hj], x1⟩
      · rename_i hne
        obtain ⟨n1, n2⟩ := ih _ _ _ _ _ _ _ hr
        refine ⟨n1, fun gB hp x hB => ?_⟩
        obtain ⟨hp1, e1, x1⟩ := n2 gB hp x hB
        refine ⟨hp1, ?_, x1⟩
        rw [e1]
        cases e with
        | norm => rfl
        | exit id => exact absurd hr (hne _ fr' h')
        | ret => rfl
    | loop b =>
      simp only [runA] at hr ⊢
      split at hr
      · rename_i f1 h1 hx
        obtain ⟨n1, n2⟩ := two hx hr
        refine ⟨n1, fun gB hp x hB => ?_⟩
        obtain ⟨hp1, hp2, e1, e2, x2⟩ := n2 gB hp x hB
        exact ⟨hp2, by rw [e1]; exact e2, x2⟩
      · rename_i hne
        obtain ⟨n1, n2⟩ := ih _ _ _ _ _ _ _ hr
        refine ⟨n1, fun gB hp x hB => ?_⟩
        obtain ⟨hp1, e1, x1⟩ := n2 gB hp x hB
        refine ⟨hp1, ?_, x1⟩
        rw [e1]
        cases e with
        | norm => exact absurd hr (hne fr' h')
        | exit id => rfl
        | ret => rfl
    | scope b =>
      simp only [runA] at hr ⊢
      exact ih _ _ _ _ _ _ _ hr
    | _ => simp [runA] at hr

end

end Go.AM
