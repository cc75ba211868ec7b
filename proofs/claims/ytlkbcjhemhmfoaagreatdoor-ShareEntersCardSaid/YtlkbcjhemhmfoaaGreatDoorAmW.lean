/- What a walk over lists says of the machine: a run's first event, and what is to be shown of it. No program here. -/
import Derived.Test.YtlkbcjhemhmfoaaGreatDoorAmU
set_option linter.unusedSimpArgs false
set_option linter.unusedVariables false
namespace Go.AM
open Go

theorem pure_indep {X : Env} {ev0 ev : Operand → AV} {op : Op} (hP : isP ev0 op = true) {h : H} {id : Nat} {v : AV} (ha : aop X ev h id op = some (v, h)) (h2 : H) (id2 : Nat) : aop X ev h2 id2 op = some (v, h2) := by
  cases op with
  | move x => simp only [aop, Option.some.injEq, Prod.mk.injEq, and_true] at ha ⊢; exact ha
  | assign x => simp only [aop, Option.some.injEq, Prod.mk.injEq, and_true] at ha ⊢; exact ha
  | pick c a b =>
    simp only [aop] at ha ⊢
    split at ha
    · simp only [Option.some.injEq, Prod.mk.injEq, and_true] at ha ⊢; exact ha
    · cases ha
  | nilCheck x =>
    simp only [aop] at ha ⊢
    split at ha
    · simp only [Option.some.injEq, Prod.mk.injEq, and_true] at ha ⊢; exact ha
    · simp only [Option.some.injEq, Prod.mk.injEq, and_true] at ha ⊢; exact ha
    · cases ha
  | binOp => simp only [aop, Option.map_eq_some_iff, Prod.mk.injEq, and_true] at ha ⊢; exact ha
  | unOp => simp only [aop, Option.map_eq_some_iff, Prod.mk.injEq, and_true] at ha ⊢; exact ha
  | convert =>
    simp only [aop] at ha ⊢
    split at ha
    · simp only [Option.some.injEq, Prod.mk.injEq, and_true] at ha ⊢; exact ha
    · cases ha
  | makeFunc fn first caps =>
    cases fn with
    | func f =>
      simp only [aop] at ha ⊢
      split at ha
      · rename_i hf
        rw [if_pos hf]
        simp only [Option.map_eq_some_iff, Prod.mk.injEq, and_true] at ha ⊢; exact ha
      · cases ha
    | _ => simp [aop] at ha
  | fieldAddr t x f =>
    simp only [aop] at ha ⊢
    split at ha
    · simp only [Option.bind_eq_some_iff] at ha ⊢
      obtain ⟨q, hq, ha⟩ := ha
      refine ⟨q, hq, ?_⟩
      split at ha
      · rename_i hc
        rw [if_pos hc]
        simp only [Option.some.injEq, Prod.mk.injEq, and_true] at ha ⊢; exact ha
      · cases ha
    · cases ha
  | field t x f =>
    simp only [aop] at ha ⊢
    split at ha
    · simp only [Option.bind_eq_some_iff] at ha ⊢
      obtain ⟨q, hq, ha⟩ := ha
      refine ⟨q, hq, ?_⟩
      split at ha
      · rename_i hc
        rw [if_pos hc]
        simp only [Option.map_eq_some_iff, Prod.mk.injEq, and_true] at ha ⊢; exact ha
      · cases ha
    · cases ha
  | index t x i =>
    simp only [aop] at ha ⊢
    split at ha
    · split at ha
      · rename_i hc
        rw [if_pos hc]
        simp only [Option.map_eq_some_iff, Prod.mk.injEq, and_true] at ha ⊢; exact ha
      · cases ha
    · cases ha
  | extract x i =>
    simp only [aop] at ha ⊢
    split at ha
    · simp only [Option.bind_eq_some_iff, Option.map_eq_some_iff, Prod.mk.injEq, and_true] at ha ⊢; exact ha
    · cases ha
  | build t parts =>
    simp only [aop] at ha ⊢
    split at ha
    · split at ha
      · rename_i hc
        rw [if_pos hc]
        simp only [Option.map_eq_some_iff, Prod.mk.injEq, and_true] at ha ⊢; exact ha
      · cases ha
    · cases ha
  | call c =>
    obtain ⟨cal, args, ats⟩ := c
    cases cal with
    | builtin b =>
      simp only [isP] at hP
      simp only [aop] at ha ⊢
      generalize ats.toList = ts at ha ⊢
      generalize args.toList.map ev = as at ha ⊢
      cases b <;> simp at hP
      all_goals
        unfold abuiltin at ha ⊢
        split at ha <;> simp_all
      all_goals
        split at ha <;> simp_all
    | _ => simp [isP] at hP
  | _ => simp [isP] at hP

/-! ### What is to be shown of an event -/
abbrev KC := Ex → P → BL → Nat → Prop

noncomputable def clOf (bl : BL) (j : Nat) : Option (Bool × Cl) := blk bl j fun w _ c => some (w, c)
def nodupB : List Nat → Bool
  | [] => true
  | n :: l => !memN n l && nodupB l
/-- A load of cells as they are. -/
def LoadR (l : List Sc) (off n : Nat) (agg : Bool) (v : AV) : Prop := off + n ≤ l.length ∧ mkAV agg ((l.drop off).take n) = some v ∧ v.flat = true
def StoreR (l : List Sc) (off : Nat) (xs l' : List Sc) : Prop := off + xs.length ≤ l.length ∧ l' = l.take off ++ xs ++ l.drop (off + xs.length)
/-- A load out of something: a value without addresses. -/
def LoadS (r : Res) (off n : Nat) (agg : Bool) (v : AV) : Prop := v.flat = true ∧ ∀ b h, r.R b h → r.F b h b ∧ ∃ l, h.load b off n = some l ∧ mkAV agg l = some v
/-- A load out of something: a slice of cells as they are. -/
def LoadRow (r : Res) (off n : Nat) (full : Bool) (sz : Nat) (c : List Sc) : Prop := ∀ b h, r.R b h → r.F b h b ∧ ((∃ bi, h.load b off 1 = some [.sl (some (bi, 0)) n full sz] ∧ h.get bi = some c ∧ r.F b h bi) ∨ (n = 0 ∧ c = [] ∧ h.load b off 1 = some [.sl none 0 true 0]))
/-- Cells of a slice. -/
def CellsR (l : List Sc) (o n : Nat) (xs : List Sc) : Prop := o + n ≤ l.length ∧ xs = (l.drop o).take n
def ContR (c : Cl) (o n : Nat) (xs : List Sc) : Prop := match c with
  | .raw l => CellsR l o n xs
  | .ex l => allB flatSc l = true ∧ CellsR l o n xs
  | .res _ => False
/-- The cells of a slice. -/
def Src (size : Nat) (bl : BL) (a : Option (Nat × Nat)) (n sz : Nat) (xs : List Sc) : Prop := match a with
  | none => n = 0 ∧ xs = []
  | some (j, o) => sz = size ∧ ∃ w c, clOf bl j = some (w, c) ∧ ContR c o (n * size) xs

noncomputable section
variable {ρ : Type}
def jsK : BL → (List Nat → Option ρ) → Option ρ
  | [], k => k []
  | ⟨j, _, _, _⟩ :: l, k => jsK l (fun js => k (j :: js))
def oldAll (mods : List Nat) : BL → Bool
  | [] => true
  | ⟨j, _, b, _⟩ :: l => (!memN j mods || (match b with | none => true | some _ => false)) && oldAll mods l
/-- A place of a callee, at the caller. -/
def fwdJ (tl : List (Option Nat)) (nb0 nb j : Nat) : Option Nat := bif Nat.blt j nb0 then (match nth tl j with | some (some j') => bif Nat.blt j' nb then some j' else none | _ => none) else some (nb + (j - nb0))
def fwdScK (fj : Nat → Option Nat) (s : Sc) (k : Sc → Option ρ) : Option ρ := match s with
  | .ptr (some (j, o)) => (match fj j with | some j' => k (.ptr (some (j', o))) | none => none)
  | .sl (some (j, o)) n f z => (match fj j with | some j' => k (.sl (some (j', o)) n f z) | none => none)
  | .fn g caps => (match caps with | [] => k (.fn g []) | _ => none)
  | s => k s
def fwdLK (fj : Nat → Option Nat) : List Sc → (List Sc → Option ρ) → Option ρ
  | [], k => k []
  | s :: l, k => fwdScK fj s fun s' => fwdLK fj l fun l' => k (s' :: l')
def fwdTK (fj : Nat → Option Nat) : List (Bool × List Sc) → (List (Bool × List Sc) → Option ρ) → Option ρ
  | [], k => k []
  | (b, s) :: l, k => fwdLK fj s fun s' => fwdTK fj l fun l' => k ((b, s') :: l')
def fwdAVK (fj : Nat → Option Nat) (v : AV) (k : AV → Option ρ) : Option ρ := match v with
  | .one s => fwdScK fj s fun s' => k (.one s')
  | .agg l => fwdLK fj l fun l' => k (.agg l')
  | .tup l => fwdTK fj l fun l' => k (.tup l')
  | .top => k .top
def fwdBK (fj : Nat → Option Nat) : BL → (BL → Option ρ) → Option ρ
  | [], k => k []
  | ⟨j, w, born, c⟩ :: l, k => match fj j with
    | some j' => (match c with
      | .ex cs => fwdLK fj cs fun cs' => fwdBK fj l fun l' => k (⟨j', w, born, .ex cs'⟩ :: l')
      | .raw cs => fwdBK fj l fun l' => k (⟨j', w, born, .raw cs⟩ :: l')
      | .res r => fwdBK fj l fun l' => k (⟨j', w, born, .res r⟩ :: l'))
    | none => none
/-- The caller's places of the blocks that may be written. -/
def wFrom (tl : List (Option Nat)) : BL → (List Nat → Option ρ) → Option ρ
  | [], k => k []
  | ⟨j, w, _, _⟩ :: l, k => wFrom tl l fun js => match w with
    | false => k js
    | true => match nth tl j with | some (some j') => k (j' :: js) | some none => k js | none => none
def callSt (C : Cx) (i : Nat) (tl : List (Option Nat)) (nb0 : Nat) (bl0 : BL) (v : AV) (Ba : BL) (nb' : Nat) (st : St) : Option (AV × St) := match st with
  | ⟨p, dc, bl, nb, sp, ss⟩ => wFrom tl bl0 fun mods => bif C.dr && !oldAll mods bl then none else delsK mods bl fun bl1 => fwdBK (fwdJ tl nb0 nb) Ba fun Ba' => appK Ba' bl1 fun bl' => bif nodupB (bl'.map Bk.j) then
      jsK Ba' fun js => appK mods js fun ms => wroteK C i ms sp ss fun sp' ss' => fwdAVK (fwdJ tl nb0 nb) v fun v' => some (v', ⟨p, dc, bl', nb + (nb' - nb0), sp', ss'⟩) else none
def appSt (C : Cx) (i : Nat) (l : List Sc) (mods : List Nat) (st : St) : Option St := match st with
  | ⟨p, dc, bl, nb, sp, ss⟩ => delsK mods bl fun bl1 => wroteK C i (nb :: mods) sp ss fun sp' ss' => some ⟨p, dc, ⟨nb, true, some i, .raw l⟩ :: bl1, nb + 1, sp', ss'⟩
def app0St (C : Cx) (i : Nat) (st : St) : Option St := match st with
  | ⟨p, dc, bl, nb, sp, ss⟩ => wroteK C i [] sp ss fun sp' ss' => some ⟨p, dc, bl, nb, sp', ss'⟩
def updSt (j : Nat) (l : List Sc) (st : St) : Option St := match st with
  | ⟨p, dc, bl, nb, sp, ss⟩ => updK bl j (.raw l) fun bl' => some ⟨p, dc, bl', nb, sp, ss⟩
def rowSt (C : Cx) (l : List Sc) (st : St) : Option St := match st with
  | ⟨p, dc, bl, nb, sp, ss⟩ => newK C nb ss fun ss' => some ⟨p, dc, ⟨nb, false, none, .raw l⟩ :: bl, nb + 1, sp, ss'⟩
end

/-- A call and what it leaves: 'bl': the blocks that it looks at; behind it: for some a, the value V a, the written ones and new ones B a. -/
def Ct (X : Env) (g : FuncId) (args : List AV) (bl : BL) (nb : Nat) (A : Type) (V : A → AV) (B : A → BL) (nb' : A → Nat) : Prop :=
  ∀ σ args' h, LR (RAV σ) args args' → BlOK σ bl h → h.ro ≤ h.nx → (∀ j, nb ≤ j → σ j = none) →
    CallsQ X g args' h fun v' h' => ∃ a σ', (∀ j, j < nb → σ' j = σ j) ∧ (∀ j, nb' a ≤ j → σ' j = none) ∧ h.nx ≤ h'.nx ∧ h'.ro = h.ro ∧ RAV σ' (V a) v' ∧ BlOK σ' (B a) h' ∧
      (∀ i, i < h.nx → ¬ WrB σ bl h i → h'.get i = h.get i) ∧ (∀ e ∈ B a, ∀ i, Foot σ' h' e i → h.nx ≤ i ∨ WrB σ bl h i) ∧ (∀ e ∈ B a, e.born = none)

/-! ### What is known, told otherwise -/
def RvSc (tl : List (Option Nat)) : Sc → Sc → Prop
  | .ptr (some (j, o)), s => (match nth tl j with | some (some j') => s = .ptr (some (j', o)) | _ => False)
  | .sl (some (j, o)) n f z, s => (match nth tl j with | some (some j') => s = .sl (some (j', o)) n f z | some none => n = 0 ∧ s = .sl none 0 true 0 | none => False)
  | .fn g [], s => s = .fn g []
  | .fn g [(j, o)], s => (match nth tl j with | some (some j') => s = .fn g [(j', o)] | _ => False)
  | .fn g [(j, o), (j2, o2)], s => (match nth tl j, nth tl j2 with | some (some j'), some (some j2') => s = .fn g [(j', o), (j2', o2)] | _, _ => False)
  | .fn _ _, _ => False
  | x, s => s = x
def RvL (tl : List (Option Nat)) : List Sc → List Sc → Prop
  | [], l => l = []
  | x :: xs, l => match l with
    | [] => False
    | y :: ys => RvSc tl x y ∧ RvL tl xs ys
def RvT (tl : List (Option Nat)) : List (Bool × List Sc) → List (Bool × List Sc) → Prop
  | [], l => l = []
  | x :: xs, l => match l with
    | [] => False
    | y :: ys => y.1 = x.1 ∧ RvL tl x.2 y.2 ∧ RvT tl xs ys
def RvAV (tl : List (Option Nat)) : AV → AV → Prop
  | .one x, v => (match v with | .one s => RvSc tl x s | _ => False)
  | .agg l, v => (match v with | .agg l' => (l' = l ∧ allB flatSc l = true) ∨ RvL tl l l' | _ => False)
  | .tup l, v => (match v with | .tup l' => (l' = l ∧ (AV.tup l).flat = true) ∨ RvT tl l l' | _ => False)
  | .top, _ => True
def RvP (tl : List (Option Nat)) (p : P) : P → Prop
  | [] => True
  | (n, v) :: q => RvAV tl v (P.get p n) ∧ RvP tl p q
def RvCl (tl : List (Option Nat)) : Cl → Cl → Prop
  | .raw l, c => (match c with | .raw l' => l' = l | .ex l' => l' = l ∧ allB flatSc l = true | .res _ => False)
  | .ex l, c => (match c with | .ex l' => RvL tl l l' | _ => False)
  | .res r, c => (match c with | .res r' => r' = r | _ => False)
def RvBL (tl : List (Option Nat)) (bl : BL) : BL → Prop
  | [] => True
  | ⟨j, w, _, c⟩ :: l => (match nth tl j with | some (some j') => ∃ w' c', clOf bl j' = some (w', c') ∧ (w = true → w' = true) ∧ RvCl tl c c' | some none => c = .raw [] | none => False) ∧ RvBL tl bl l
/-- Which places the blocks come from. -/
def fromJ (tl : List (Option Nat)) : BL → List Nat
  | [] => []
  | ⟨j, _, _, _⟩ :: l => match nth tl j with | some (some j') => j' :: fromJ tl l | _ => fromJ tl l
/-- The first places mean what they meant. -/
def idTl (k : Nat) (tl : List (Option Nat)) : Bool := allB (fun j => match nth tl j with | some (some j') => Nat.beq j' j | _ => false) (List.range k)
structure ReB (k : Nat) (tl : List (Option Nat)) (p : P) (bl : BL) (p2 : P) (bl2 : BL) (nb2 : Nat) : Prop where
  len : lenK tl nb2 = true
  kn : Nat.ble k nb2 = true
  id : idTl k tl = true
  nd : nodupB (fromJ tl bl2) = true
  nd2 : nodupB (bl2.map Bk.j) = true
  p : RvP tl p p2
  bl : RvBL tl bl bl2

noncomputable def stackQ (X : Env) (nt : Nat) : List Kt → (Ex → FF → H → Prop) → (Ex → FF → H → Prop)
  | [], Q => Q
  | .seq b :: S, Q => ThenF (fun f h => RunsF X nt b f h (stackQ X nt S Q)) (stackQ X nt S Q)
  | .block id :: S, Q => InBlockF id (stackQ X nt S Q)
def DcR (dc : DC) (f : FF) : Prop := ∀ d b, dcGet dc d = some b → f d = .one (.bool b)

noncomputable def Sem (X : Env) (nt : Nat) (F : Fo) (S : List Kt) (st : St) (G : Gh) (Q : Ex → FF → H → Prop) : Prop := match F with
  | .code c => ∀ σ f h, SI G σ st.p st.bl st.nb f h → RunsF X nt c f h (stackQ X nt S Q)
  | .leave e => ∀ σ f h, SI G σ st.p st.bl st.nb f h → stackQ X nt S Q e f h
  | .reg C rest i => ∀ c σ f h, SI G σ st.p st.bl st.nb f h → RG C.dr c C.ops.length i σ st.bl G.h h → DcR st.dc f → i + rest.length = C.ops.length → SeqD X nt C c i rest f h σ st.bl st.sp st.ss (stackQ X nt S Q .norm)
  | .op C o rest i => ∀ c σ f h, SI G σ st.p st.bl st.nb f h → RG C.dr c C.ops.length i σ st.bl G.h h → DcR st.dc f → i + (rest.length + 1) = C.ops.length → wantedF C.ops f o = some true → SeqD X nt C c i (o :: rest) f h σ st.bl st.sp st.ss (stackQ X nt S Q .norm)
  | .put C dst v rest i => ∀ c σ f h v', SI G σ st.p st.bl st.nb f h → RAV σ v v' → RG C.dr c C.ops.length (i + 1) σ st.bl G.h h → DcR st.dc f → i + (rest.length + 1) = C.ops.length → ∃ f1, putF nt f dst v' = some f1 ∧ SeqD X nt C c (i + 1) rest f1 h σ st.bl st.sp st.ss (stackQ X nt S Q .norm)

/-- From what is known of the slots and blocks, the run comes to what K says. -/
def Run (X : Env) (nt k : Nat) (F : Fo) (S : List Kt) (st : St) (K : KC) : Prop :=
  ∀ G : Gh, G.k = k → ∀ Q, (∀ e p bl nb, K e p bl nb → ∀ σ f h, SI G σ p bl nb f h → Q e f h) → Sem X nt F S st G Q

def Run.Put (X : Env) (nt k : Nat) (v : AV) (r : Rs) (st : St) (K : KC) : Prop := Run X nt k (.put r.C r.o.dst v r.rest r.i) r.S st K

def RvArgs (tl : List (Option Nat)) : List AV → List AV → Prop
  | [], l => l = []
  | x :: xs, l => match l with
    | [] => False
    | y :: ys => RvAV tl x y ∧ RvArgs tl xs ys
def CallH (X : Env) (nt k : Nat) (K : KC) (g : FuncId) (args : List AV) (r : Rs) (st : St) : Prop :=
  ∃ (A : Type) (V : A → AV) (B : A → BL) (nb' : A → Nat) (tl : List (Option Nat)) (args0 : List AV) (bl0 : BL) (nb0 : Nat), Ct X g args0 bl0 nb0 A V B nb' ∧
    lenK tl nb0 = true ∧ RvArgs tl args0 args ∧ RvBL tl st.bl bl0 ∧ nodupB (fromJ tl bl0) = true ∧ nodupB (bl0.map Bk.j) = true ∧
    (match r.C.dr && !isW X r.o.op with
      | true => noMask (r.C.bs.getD r.i 0) 0 r.C.ops = true ∧ (∀ e ∈ bl0, e.w = false) ∧ ∀ a, (V a).flat = true ∧ Run.Put X nt k (V a) r st K
      | false => ∀ a, ∃ v' st', callSt r.C r.i tl nb0 bl0 (V a) (B a) (nb' a) st = some (v', st') ∧ Run.Put X nt k v' r st' K)
def nilOr (a : Option (Nat × Nat)) (n : Nat) (full : Bool) (sz : Nat) : Sc := match a with
  | none => .sl none 0 true 0
  | some x => .sl (some x) n full sz
def AppH (X : Env) (nt k : Nat) (K : KC) (e : TypeId) (a : Option (Nat × Nat)) (sn : Nat) (full : Bool) (sz : Nat) (a' : Option (Nat × Nat)) (xn sz' : Nat) (r : Rs) (st : St) : Prop :=
  ∃ old new, Src (X.T e).size st.bl a sn sz old ∧ Src (X.T e).size st.bl a' xn sz' new ∧ (Nat.blt 0 (X.T e).size && lenK (X.T e).zero (X.T e).size) = true ∧
    (sn + xn) * (X.T e).bytes ≤ 35184372088832 ∧ sn + xn ≤ 35184372088832 ∧
    (xn = 0 → ∃ st', app0St r.C r.i st = some st' ∧ Run.Put X nt k (.one (nilOr a sn full sz)) r st' K) ∧
    (0 < xn → (full = true ∨ a = none → ∃ st', appSt r.C r.i (old ++ new) [] st = some st' ∧ Run.Put X nt k (.one (.sl (some (st.nb, 0)) (sn + xn) false (X.T e).size)) r st' K) ∧
      (full = false → ∀ j o, a = some (j, o) → ∃ c, clOf st.bl j = some (true, c) ∧ (∀ s, c ≠ .res s) ∧ ∃ st', appSt r.C r.i (old ++ new) [j] st = some st' ∧ Run.Put X nt k (.one (.sl (some (st.nb, 0)) (sn + xn) false (X.T e).size)) r st' K))
def LoopH (X : Env) (nt k : Nat) (K : KC) (b : Code) (S : List Kt) (st : St) : Prop :=
  ∃ (T : Type) (m : T → Nat) (I : T → Prop) (ip : T → P) (ib : T → BL) (inb : T → Nat), (∃ t tl, I t ∧ ReB k tl st.p st.bl (ip t) (ib t) (inb t)) ∧
    ∀ t, I t → Run X nt k (.code b) [] ⟨ip t, [], ib t, inb t, [], []⟩ fun e p' bl' nb' => match e with
      | .norm => ∃ t' tl, m t' < m t ∧ I t' ∧ ReB k tl p' bl' (ip t') (ib t') (inb t')
      | e => Run X nt k (.leave e) S ⟨p', [], bl', nb', [], []⟩ K

def EvH (X : Env) (nt k : Nat) (K : KC) : Ev → Prop
  | .fin e p bl nb => K e p bl nb
  | .split b S f1 st1 f2 st2 => (b = true → Run X nt k f1 S st1 K) ∧ (b = false → Run X nt k f2 S st2 K)
  | .loop b S st => LoopH X nt k K b S st
  | .draw ops S st => ∃ bs, befs ops = bs ∧ drawOK X ops = true ∧ Run X nt k (.reg ⟨ops, true, bs⟩ ops 0) S st K
  | .ask A v r st => A ∧ Run.Put X nt k v r st K
  | .loadR l off n agg r st => ∃ v, LoadR l off n agg v ∧ Run.Put X nt k v r st K
  | .loadS s w off n agg r st => (∃ v, LoadS s off n agg v ∧ Run.Put X nt k v r st K) ∨
      (w = false ∧ n = 1 ∧ agg = false ∧ ∃ m full sz c, LoadRow s off m full sz c ∧ ∃ st', rowSt r.C c st = some st' ∧ Run.Put X nt k (.one (.sl (some (st.nb, 0)) m full sz)) r st' K)
  | .storeR l j off xs r st => ∃ l', StoreR l off xs l' ∧ ∃ st', updSt j l' st = some st' ∧ Run.Put X nt k undefA r st' K
  | .call g args r st => CallH X nt k K g args r st
  | .app e a sn full sz a' xn sz' r st => AppH X nt k K e a sn full sz a' xn sz' r st

/-! ### Lists of places -/
theorem nodupB_ok : ∀ {l : List Nat}, nodupB l = true → l.Nodup
  | [], _ => List.nodup_nil
  | n :: l, h => by
    unfold nodupB at h
    rw [Bool.and_eq_true, Bool.not_eq_true'] at h
    exact List.nodup_cons.2 ⟨memN_false h.1, nodupB_ok h.2⟩
theorem clOf_ok {bl : BL} {j : Nat} {w : Bool} {c : Cl} (h : clOf bl j = some (w, c)) : ∃ e ∈ bl, e.j = j ∧ e.w = w ∧ e.c = c := by
  unfold clOf at h
  obtain ⟨w', born, c', h1, h2⟩ := blk_ok h
  injection h2 with h2
  injection h2 with h2 h3
  exact ⟨_, h1, rfl, h2, h3⟩
theorem ent_congr {σ : Sg} {h : H} {e e' : Bk} (hj : e'.j = e.j) (hc : e'.c = e.c) : (Ent σ h e' ↔ Ent σ h e) ∧ ∀ x, Foot σ h e' x ↔ Foot σ h e x := by
  unfold Ent Foot
  rw [hj, hc]
  exact ⟨Iff.rfl, fun _ => Iff.rfl⟩
theorem jsK_ok {ρ : Type} {r : ρ} : ∀ {l : BL} {k : List Nat → Option ρ}, jsK l k = some r → k (l.map Bk.j) = some r
  | [], k, h => h
  | ⟨j, w, b, c⟩ :: l, k, h => by
    unfold jsK at h
    exact jsK_ok (l := l) (k := fun js => k (j :: js)) h

/-! ### What is known, told otherwise: sound -/
def reσ (tl : List (Option Nat)) (σ : Sg) : Sg := fun j => match nth tl j with
  | some (some j') => σ j'
  | some none => some none
  | none => none
theorem RvSc_ok {tl : List (Option Nat)} {σ : Sg} {x s s' : Sc} (h : RvSc tl x s) (r : RSc σ s s') : RSc (reσ tl σ) x s' := by
  cases x with
  | ptr a => cases a with
    | none => have h : s = _ := h; subst h; exact r
    | some a =>
      obtain ⟨j, o⟩ := a
      simp only [RvSc] at h
      split at h
      · rename_i j' e
        subst h
        obtain ⟨a', rfl, b, hb, rfl⟩ := r
        exact ⟨_, rfl, b, by unfold reσ; rw [e]; exact hb, rfl⟩
      · exact h.elim
  | sl a n f z => cases a with
    | none => have h : s = _ := h; subst h; exact r
    | some a =>
      obtain ⟨j, o⟩ := a
      simp only [RvSc] at h
      split at h
      · rename_i j' e
        subst h
        rcases r with ⟨b, hb, rfl⟩ | ⟨hb, h1, rfl⟩
        · exact .inl ⟨b, by unfold reσ; rw [e]; exact hb, rfl⟩
        · exact .inr ⟨by unfold reσ; rw [e]; exact hb, h1, rfl⟩
      · rename_i e
        obtain ⟨h1, rfl⟩ := h
        have r : s' = _ := r
        exact .inr ⟨by unfold reσ; rw [e], h1, r⟩
      · exact h.elim
  | fn g caps =>
    match caps, h with
    | [], h => have h : s = _ := h; subst h; obtain ⟨cs, rfl, hc⟩ := r; exact ⟨cs, rfl, by cases cs with | nil => trivial | cons => exact hc.elim⟩
    | [(j, o)], h =>
      simp only [RvSc] at h
      split at h
      · rename_i j' e
        subst h
        obtain ⟨cs, rfl, hc⟩ := r
        match cs, hc with
        | [c], ⟨⟨b, hb, hc⟩, _⟩ => exact ⟨_, rfl, ⟨b, by unfold reσ; rw [e]; exact hb, hc⟩, trivial⟩
        | [], hc => exact hc.elim
        | _ :: _ :: _, ⟨_, hc⟩ => exact hc.elim
      · exact h.elim
    | [(j, o), (j2, o2)], h =>
      simp only [RvSc] at h
      split at h
      · rename_i j' j2' e e2
        subst h
        obtain ⟨cs, rfl, hc⟩ := r
        match cs, hc with
        | [c, c2], ⟨⟨b, hb, hc⟩, ⟨b2, hb2, hc2⟩, _⟩ => exact ⟨_, rfl, ⟨b, by unfold reσ; rw [e]; exact hb, hc⟩, ⟨b2, by unfold reσ; rw [e2]; exact hb2, hc2⟩, trivial⟩
        | [], hc => exact hc.elim
        | [_], ⟨_, hc⟩ => exact hc.elim
        | _ :: _ :: _ :: _, ⟨_, _, hc⟩ => exact hc.elim
      · exact h.elim
    | _ :: _ :: _ :: _, h => exact h.elim
  | _ => have h : s = _ := h; subst h; exact r
theorem RvL_ok {tl : List (Option Nat)} {σ : Sg} : ∀ {x s s' : List Sc}, RvL tl x s → LR (RSc σ) s s' → LR (RSc (reσ tl σ)) x s'
  | [], s, s', h, r => by
    have h : s = [] := h
    subst h
    cases s' with
    | nil => trivial
    | cons => exact r.elim
  | x :: xs, [], s', h, r => h.elim
  | x :: xs, s :: ss, s', h, r => by
    cases s' with
    | nil => exact r.elim
    | cons y ys => exact ⟨RvSc_ok h.1 r.1, RvL_ok h.2 r.2⟩
theorem RvT_ok {tl : List (Option Nat)} {σ : Sg} : ∀ {x s s' : List (Bool × List Sc)}, RvT tl x s → LR (REl σ) s s' → LR (REl (reσ tl σ)) x s'
  | [], s, s', h, r => by
    have h : s = [] := h
    subst h
    cases s' with
    | nil => trivial
    | cons => exact r.elim
  | x :: xs, [], s', h, r => h.elim
  | x :: xs, s :: ss, s', h, r => by
    cases s' with
    | nil => exact r.elim
    | cons y ys => exact ⟨⟨r.1.1.trans h.1, RvL_ok h.2.1 r.1.2⟩, RvT_ok h.2.2 r.2⟩
theorem RvAV_ok {tl : List (Option Nat)} {σ : Sg} {x v v' : AV} (h : RvAV tl x v) (r : RAV σ v v') : RAV (reσ tl σ) x v' := by
  cases x with
  | one x =>
    simp only [RvAV] at h
    split at h
    · obtain ⟨s', rfl, r⟩ := r; exact ⟨s', rfl, RvSc_ok h r⟩
    · exact h.elim
  | agg l =>
    simp only [RvAV] at h
    split at h
    · obtain ⟨l', rfl, r⟩ := r
      rcases h with ⟨rfl, hf⟩ | h
      · rw [LR.flat hf r]; exact ⟨_, rfl, LR.of_flat hf⟩
      · exact ⟨l', rfl, RvL_ok h r⟩
    · exact h.elim
  | tup l =>
    simp only [RvAV] at h
    split at h
    · rcases h with ⟨rfl, hf⟩ | h
      · rw [RAV.flat hf r]; exact RAV.of_flat hf
      · obtain ⟨l', rfl, r⟩ := r
        exact ⟨l', rfl, RvT_ok h r⟩
    · exact h.elim
  | top => trivial
theorem RvP_ok {tl : List (Option Nat)} {σ : Sg} {f : FF} {p : P} (a : Ag σ f p) : ∀ {p2 : P}, RvP tl p p2 → Ag (reσ tl σ) f p2
  | [], _ => fun n => trivial
  | (m, v) :: q, h => (RvP_ok a h.2).over m (RvAV_ok h.1 (a m))

theorem RvBL_mem {tl : List (Option Nat)} {bl : BL} : ∀ {bl2 : BL}, RvBL tl bl bl2 → ∀ e ∈ bl2, (∃ j' e', nth tl e.j = some (some j') ∧ e' ∈ bl ∧ e'.j = j' ∧ (e.w = true → e'.w = true) ∧ RvCl tl e.c e'.c ∧ j' ∈ fromJ tl bl2) ∨ (nth tl e.j = some none ∧ e.c = .raw [])
  | ⟨j, w, b, c⟩ :: l, h, e, he => by
    rcases List.mem_cons.1 he with e1 | e1
    · subst e1
      have h1 := h.1
      split at h1
      · rename_i j' ej
        obtain ⟨w', c', hc, hw, hr⟩ := h1
        obtain ⟨e', he', hj, hw', hc'⟩ := clOf_ok hc
        refine .inl ⟨j', e', ej, he', hj, fun x => by rw [hw']; exact hw x, by rw [hc']; exact hr, ?_⟩
        unfold fromJ; rw [ej]; exact List.mem_cons_self
      · rename_i ej; exact .inr ⟨ej, h1⟩
      · exact h1.elim
    · rcases RvBL_mem h.2 e e1 with ⟨j', e', h1, h2, h3, h4, h5, h6⟩ | h1
      · refine .inl ⟨j', e', h1, h2, h3, h4, h5, ?_⟩
        unfold fromJ
        split
        · exact List.mem_cons_of_mem _ h6
        · exact h6
      · exact .inr h1
/-- Different places come from different ones. -/
theorem fromJ_inj {tl : List (Option Nat)} : ∀ {bl2 : BL}, (fromJ tl bl2).Nodup → ∀ e ∈ bl2, ∀ e2 ∈ bl2, ∀ j', nth tl e.j = some (some j') → nth tl e2.j = some (some j') → e = e2
  | ⟨j, w, b, c⟩ :: l, hn, e, he, e2, he2, j', h1, h2 => by
    have mem : ∀ (l : BL) (e : Bk), e ∈ l → nth tl e.j = some (some j') → j' ∈ fromJ tl l := by
      intro l
      induction l with
      | nil => intro e he; cases he
      | cons a l ih =>
        intro e he h
        unfold fromJ
        rcases List.mem_cons.1 he with e1 | e1
        · subst e1; rw [h]; exact List.mem_cons_self
        · split
          · exact List.mem_cons_of_mem _ (ih e e1 h)
          · exact ih e e1 h
    have hn' : (fromJ tl l).Nodup := by
      unfold fromJ at hn
      split at hn
      · exact (List.nodup_cons.1 hn).2
      · exact hn
    rcases List.mem_cons.1 he with e1 | e1
    · rcases List.mem_cons.1 he2 with g1 | g1
      · rw [e1, g1]
      · subst e1
        unfold fromJ at hn
        rw [show nth tl (⟨j, w, b, c⟩ : Bk).j = nth tl j from rfl] at h1
        rw [h1] at hn
        exact absurd (mem l e2 g1 h2) (List.nodup_cons.1 hn).1
    · rcases List.mem_cons.1 he2 with g1 | g1
      · subst g1
        unfold fromJ at hn
        rw [show nth tl (⟨j, w, b, c⟩ : Bk).j = nth tl j from rfl] at h2
        rw [h2] at hn
        exact absurd (mem l e e1 h1) (List.nodup_cons.1 hn).1
      · exact fromJ_inj hn' e e1 e2 g1 j' h1 h2

theorem RvEnt {tl : List (Option Nat)} {σ : Sg} {h : H} {e e' : Bk} {j' : Nat} (hj : nth tl e.j = some (some j')) (hj' : e'.j = j') (hc : RvCl tl e.c e'.c) (x : Ent σ h e') : Ent (reσ tl σ) h e ∧ ∀ i, Foot (reσ tl σ) h e i ↔ Foot σ h e' i := by
  have hσ : reσ tl σ e.j = σ e'.j := by unfold reσ; rw [hj, hj']
  unfold Ent Foot at *
  rw [hσ]
  cases hs : σ e'.j with
  | none => rw [hs] at x; exact x.elim
  | some r =>
    rw [hs] at x
    cases r with
    | none =>
      refine ⟨?_, fun _ => Iff.rfl⟩
      have x : e'.c = .raw [] := x
      show e.c = .raw []
      cases hec : e.c with
      | raw l => rw [hec, x] at hc; have hc : [] = l := hc; rw [← hc]
      | ex l => rw [hec, x] at hc; exact hc.elim
      | res r => rw [hec, x] at hc; exact hc.elim
    | some b =>
      dsimp only at x ⊢
      cases hec : e.c with
      | raw l =>
        rw [hec] at hc
        cases hec' : e'.c with
        | raw l' => rw [hec'] at hc x; have hc : l' = l := hc; subst hc; exact ⟨x, fun _ => Iff.rfl⟩
        | ex l' =>
          rw [hec'] at hc x
          obtain ⟨rfl, hf⟩ := hc
          obtain ⟨l2, h1, h2⟩ := x
          rw [LR.flat hf h2] at h1
          exact ⟨h1, fun _ => Iff.rfl⟩
        | res r => rw [hec'] at hc; exact hc.elim
      | ex l =>
        rw [hec] at hc
        cases hec' : e'.c with
        | ex l' =>
          rw [hec'] at hc x
          obtain ⟨l2, h1, h2⟩ := x
          exact ⟨⟨l2, h1, RvL_ok hc h2⟩, fun _ => Iff.rfl⟩
        | raw l' => rw [hec'] at hc; exact hc.elim
        | res r => rw [hec'] at hc; exact hc.elim
      | res r =>
        rw [hec] at hc
        cases hec' : e'.c with
        | res r' => rw [hec'] at hc x; have hc : r' = r := hc; subst hc; exact ⟨x, fun _ => Iff.rfl⟩
        | raw l' => rw [hec'] at hc; exact hc.elim
        | ex l' => rw [hec'] at hc; exact hc.elim

theorem RvBL.ok {tl : List (Option Nat)} {bl bl2 : BL} {σ : Sg} {h : H} (r : RvBL tl bl bl2) (nd : nodupB (fromJ tl bl2) = true) (nd2 : nodupB (bl2.map Bk.j) = true) (s : BlOK σ bl h) :
    BlOK (reσ tl σ) bl2 h ∧ ∀ e ∈ bl2, ∀ i, Foot (reσ tl σ) h e i → ∃ e' ∈ bl, (∃ j', nth tl e.j = some (some j') ∧ e'.j = j') ∧ (e.w = true → e'.w = true) ∧ Foot σ h e' i := by
  have nilF : ∀ e : Bk, nth tl e.j = some none → ∀ i, ¬ Foot (reσ tl σ) h e i := fun e he i hi => by
    unfold Foot reσ at hi
    rw [he] at hi; exact hi
  have old : ∀ e ∈ bl2, ∀ i, Foot (reσ tl σ) h e i → ∃ e' ∈ bl, (∃ j', nth tl e.j = some (some j') ∧ e'.j = j') ∧ (e.w = true → e'.w = true) ∧ Foot σ h e' i := fun e he i hi => by
    rcases RvBL_mem r e he with ⟨j', e', h1, h2, h3, h4, h5, h6⟩ | ⟨h1, h2⟩
    · exact ⟨e', h2, ⟨j', h1, h3⟩, h4, ((RvEnt h1 h3 h5 (s.ent e' h2)).2 i).1 hi⟩
    · exact absurd hi (nilF e h1 i)
  refine ⟨⟨fun e he => ?_, fun e he i hi => ?_, fun e he hw i hi => ?_, nodupB_ok nd2, fun e he e2 he2 hne hw i hi hi2 => ?_⟩, old⟩
  · rcases RvBL_mem r e he with ⟨j', e', h1, h2, h3, h4, h5, h6⟩ | ⟨h1, h2⟩
    · exact (RvEnt h1 h3 h5 (s.ent e' h2)).1
    · unfold Ent reσ
      rw [h1]; exact h2
  · obtain ⟨e', h1, _, _, h4⟩ := old e he i hi; exact s.low e' h1 i h4
  · obtain ⟨e', h1, _, h3, h4⟩ := old e he i hi; exact s.wr e' h1 (h3 hw) i h4
  · obtain ⟨e', h1, ⟨j1, h2, h2'⟩, h3, h4⟩ := old e he i hi
    obtain ⟨e2', g1, ⟨j2, g2, g2'⟩, g3, g4⟩ := old e2 he2 i hi2
    refine s.dis e' h1 e2' g1 (fun ej => hne ?_) (hw.imp h3 g3) i h4 g4
    have : j1 = j2 := by rw [← h2', ← g2']; exact ej
    subst this
    rw [fromJ_inj (nodupB_ok nd) e he e2 he2 j1 h2 g2]

theorem RvArgs_ok {tl : List (Option Nat)} {σ : Sg} : ∀ {x s s' : List AV}, RvArgs tl x s → LR (RAV σ) s s' → LR (RAV (reσ tl σ)) x s'
  | [], s, s', h, r => by
    have h : s = [] := h
    subst h
    cases s' with
    | nil => trivial
    | cons => exact r.elim
  | x :: xs, [], s', h, r => h.elim
  | x :: xs, s :: ss, s', h, r => by
    cases s' with
    | nil => exact r.elim
    | cons y ys => exact ⟨RvAV_ok h.1 r.1, RvArgs_ok h.2 r.2⟩

/-! ### Forward -/
section
variable {ρ : Type} {r : ρ} {fj : Nat → Option Nat} {σ τ : Sg}
theorem fwdSc_ok (hf : ∀ j j', fj j = some j' → τ j' = σ j) {s : Sc} {k : Sc → Option ρ} (h : fwdScK fj s k = some r) : ∃ s', k s' = some r ∧ ∀ x, RSc σ s x → RSc τ s' x := by
  unfold fwdScK at h
  split at h
  · rename_i j o
    split at h
    · rename_i j' e
      refine ⟨_, h, fun x ⟨a', h1, b, hb, h2⟩ => ⟨a', h1, b, (hf j j' e).trans hb, h2⟩⟩
    · cases h
  · rename_i j o n f z
    split at h
    · rename_i j' e
      refine ⟨_, h, fun x hx => ?_⟩
      rcases hx with ⟨b, hb, h1⟩ | ⟨hb, h1⟩
      · exact .inl ⟨b, (hf j j' e).trans hb, h1⟩
      · exact .inr ⟨(hf j j' e).trans hb, h1⟩
    · cases h
  · rename_i g caps
    split at h
    · refine ⟨_, h, fun x ⟨cs, h1, h2⟩ => ⟨cs, h1, ?_⟩⟩
      cases cs with
      | nil => trivial
      | cons => exact h2.elim
    · cases h
  · rename_i n1 n2 n3
    refine ⟨_, h, fun x hx => ?_⟩
    cases s with
    | ptr a => cases a with
      | none => exact hx
      | some a => exact absurd rfl (n1 a.1 a.2)
    | sl a n f z => cases a with
      | none => exact hx
      | some a => exact absurd rfl (n2 a.1 a.2 n f z)
    | fn g caps => exact absurd rfl (n3 g caps)
    | _ => exact hx
theorem fwdL_ok (hf : ∀ j j', fj j = some j' → τ j' = σ j) : ∀ {l : List Sc} {k : List Sc → Option ρ}, fwdLK fj l k = some r → ∃ l', k l' = some r ∧ ∀ x, LR (RSc σ) l x → LR (RSc τ) l' x
  | [], k, h => ⟨[], h, fun x hx => by cases x with | nil => trivial | cons => exact hx.elim⟩
  | s :: l, k, h => by
    unfold fwdLK at h
    obtain ⟨s', h1, h2⟩ := fwdSc_ok hf h
    obtain ⟨l', h3, h4⟩ := fwdL_ok hf h1
    exact ⟨s' :: l', h3, fun x hx => by
      cases x with
      | nil => exact hx.elim
      | cons y ys => exact ⟨h2 y hx.1, h4 ys hx.2⟩⟩
theorem fwdT_ok (hf : ∀ j j', fj j = some j' → τ j' = σ j) : ∀ {l : List (Bool × List Sc)} {k : List (Bool × List Sc) → Option ρ}, fwdTK fj l k = some r → ∃ l', k l' = some r ∧ ∀ x, LR (REl σ) l x → LR (REl τ) l' x
  | [], k, h => ⟨[], h, fun x hx => by cases x with | nil => trivial | cons => exact hx.elim⟩
  | (b, s) :: l, k, h => by
    unfold fwdTK at h
    obtain ⟨s', h1, h2⟩ := fwdL_ok hf h
    obtain ⟨l', h3, h4⟩ := fwdT_ok hf h1
    exact ⟨(b, s') :: l', h3, fun x hx => by
      cases x with
      | nil => exact hx.elim
      | cons y ys => exact ⟨⟨hx.1.1, h2 y.2 hx.1.2⟩, h4 ys hx.2⟩⟩
theorem fwdAV_ok (hf : ∀ j j', fj j = some j' → τ j' = σ j) {v : AV} {k : AV → Option ρ} (h : fwdAVK fj v k = some r) : ∃ v', k v' = some r ∧ ∀ x, RAV σ v x → RAV τ v' x := by
  cases v with
  | one s =>
    obtain ⟨s', h1, h2⟩ := fwdSc_ok hf (show fwdScK fj s (fun s' => k (.one s')) = some r from h)
    exact ⟨_, h1, fun x ⟨y, e, hy⟩ => ⟨y, e, h2 y hy⟩⟩
  | agg l =>
    obtain ⟨s', h1, h2⟩ := fwdL_ok hf (show fwdLK fj l (fun s' => k (.agg s')) = some r from h)
    exact ⟨_, h1, fun x ⟨y, e, hy⟩ => ⟨y, e, h2 y hy⟩⟩
  | tup l =>
    obtain ⟨s', h1, h2⟩ := fwdT_ok hf (show fwdTK fj l (fun s' => k (.tup s')) = some r from h)
    exact ⟨_, h1, fun x ⟨y, e, hy⟩ => ⟨y, e, h2 y hy⟩⟩
  | top => exact ⟨_, h, fun _ _ => trivial⟩
/-- An entry at the caller. -/
def FwdE (fj : Nat → Option Nat) (σ τ : Sg) (h : H) (e e' : Bk) : Prop := fj e.j = some e'.j ∧ e'.w = e.w ∧ e'.born = e.born ∧ (Ent σ h e → Ent τ h e') ∧ ∀ i, Foot τ h e' i ↔ Foot σ h e i
theorem fwdB_ok (hf : ∀ j j', fj j = some j' → τ j' = σ j) (hh : H) : ∀ {l : BL} {k : BL → Option ρ}, fwdBK fj l k = some r → ∃ l', k l' = some r ∧ LR (FwdE fj σ τ hh) l l'
  | [], k, h => ⟨[], h, trivial⟩
  | ⟨j, w, born, c⟩ :: l, k, h => by
    unfold fwdBK at h
    split at h
    · rename_i j' e
      have hj := hf j j' e
      split at h
      · rename_i cs
        obtain ⟨cs', h1, h2⟩ := fwdL_ok hf h
        obtain ⟨l', h3, h4⟩ := fwdB_ok hf hh h1
        refine ⟨_, h3, ⟨e, rfl, rfl, fun x => ?_, fun i => ?_⟩, h4⟩
        · unfold Ent at x ⊢
          rw [show (⟨j', w, born, .ex cs'⟩ : Bk).j = j' from rfl, hj]
          rw [show (⟨j, w, born, .ex cs⟩ : Bk).j = j from rfl] at x
          cases hs : σ j with
          | none => rw [hs] at x; exact x.elim
          | some q => rw [hs] at x; cases q with
            | none => cases x
            | some b => obtain ⟨l', g1, g2⟩ := x; exact ⟨l', g1, h2 _ g2⟩
        · unfold Foot
          rw [show (⟨j', w, born, .ex cs'⟩ : Bk).j = j' from rfl, hj]
      · rename_i cs
        obtain ⟨l', h3, h4⟩ := fwdB_ok hf hh h
        refine ⟨_, h3, ⟨e, rfl, rfl, fun x => ?_, fun i => ?_⟩, h4⟩
        · unfold Ent at x ⊢
          rw [show (⟨j', w, born, .raw cs⟩ : Bk).j = j' from rfl, hj]; exact x
        · unfold Foot
          rw [show (⟨j', w, born, .raw cs⟩ : Bk).j = j' from rfl, hj]
      · rename_i s
        obtain ⟨l', h3, h4⟩ := fwdB_ok hf hh h
        refine ⟨_, h3, ⟨e, rfl, rfl, fun x => ?_, fun i => ?_⟩, h4⟩
        · unfold Ent at x ⊢
          rw [show (⟨j', w, born, .res s⟩ : Bk).j = j' from rfl, hj]; exact x
        · unfold Foot
          rw [show (⟨j', w, born, .res s⟩ : Bk).j = j' from rfl, hj]
    · cases h
theorem wFrom_ok {tl : List (Option Nat)} : ∀ {l : BL} {k : List Nat → Option ρ}, wFrom tl l k = some r → ∃ js, k js = some r ∧ ∀ e ∈ l, e.w = true → ∀ j', nth tl e.j = some (some j') → j' ∈ js
  | [], k, h => ⟨[], h, fun _ h => by cases h⟩
  | ⟨j, w, b, c⟩ :: l, k, h => by
    unfold wFrom at h
    obtain ⟨js, h1, h2⟩ := wFrom_ok h
    cases w with
    | false =>
      refine ⟨js, h1, fun e he hw j' hj => ?_⟩
      rcases List.mem_cons.1 he with e1 | e1
      · subst e1; cases hw
      · exact h2 e e1 hw j' hj
    | true =>
      dsimp only at h1
      split at h1
      · rename_i j0 ej
        refine ⟨j0 :: js, h1, fun e he hw j' hj => ?_⟩
        rcases List.mem_cons.1 he with e1 | e1
        · subst e1
          rw [show (⟨j, true, b, c⟩ : Bk).j = j from rfl, ej] at hj
          injection hj with hj; injection hj with hj
          exact hj ▸ List.mem_cons_self
        · exact List.mem_cons_of_mem _ (h2 e e1 hw j' hj)
      · rename_i ej
        refine ⟨js, h1, fun e he hw j' hj => ?_⟩
        rcases List.mem_cons.1 he with e1 | e1
        · subst e1
          rw [show (⟨j, true, b, c⟩ : Bk).j = j from rfl, ej] at hj
          cases hj
        · exact h2 e e1 hw j' hj
      · cases h1
end

theorem idTl_ok {k : Nat} {tl : List (Option Nat)} (h : idTl k tl = true) (σ : Sg) : ∀ j, j < k → reσ tl σ j = σ j := by
  have all : ∀ (l : List Nat), allB (fun j => match nth tl j with | some (some j') => Nat.beq j' j | _ => false) l = true → ∀ j ∈ l, reσ tl σ j = σ j := by
    intro l
    induction l with
    | nil => intro _ j hj; cases hj
    | cons a l ih =>
      intro hl j hj
      simp only [allB, Bool.and_eq_true] at hl
      rcases List.mem_cons.1 hj with e | e
      · subst e
        have := hl.1
        unfold reσ
        split at this
        · rename_i j' ej
          rw [ej]
          rw [Nat.eq_of_beq_eq_true this]
        · cases this
      · exact ih hl.2 j e
  exact fun j hj => all _ h j (List.mem_range.2 hj)
theorem ReB.ok {k : Nat} {tl : List (Option Nat)} {p p2 : P} {bl bl2 : BL} {nb nb2 : Nat} {G : Gh} {σ : Sg} {f : FF} {h : H} (r : ReB k tl p bl p2 bl2 nb2) (hG : G.k = k) (s : SI G σ p bl nb f h) : SI G (reσ tl σ) p2 bl2 nb2 f h := by
  have hlen := lenK_ok r.len
  obtain ⟨hok, old⟩ := r.bl.ok r.nd r.nd2 s.ok
  refine ⟨RvP_ok s.ag r.p, hok, fun j hj => ?_, s.nx, s.ro, s.lo, s.keep, fun e he hw i hi => ?_, by rw [hG]; exact Nat.le_of_ble_eq_true r.kn, fun j hj => (idTl_ok r.id σ j (hG ▸ hj)).trans (s.pin j hj)⟩
  · unfold reσ
    rw [nth_eq, List.getElem?_eq_none (by omega)]
  · obtain ⟨e', h1, _, h3, h4⟩ := old e he i hi; exact s.own e' h1 (h3 hw) i h4

/-- With less known. -/
theorem Run.weaken {X : Env} {nt k : Nat} {c : Code} {S : List Kt} {p p2 : P} {bl bl2 : BL} {nb nb2 : Nat} {dc dc2 : DC} {sp sp2 : Tk} {ss ss2 : Ts} {K : KC} (tl : List (Option Nat)) (r : ReB k tl p bl p2 bl2 nb2) (h : Run X nt k (.code c) S ⟨p2, dc2, bl2, nb2, sp2, ss2⟩ K) : Run X nt k (.code c) S ⟨p, dc, bl, nb, sp, ss⟩ K :=
  fun G hG Q hK σ f hh s => h G hG Q hK _ f hh (r.ok hG s)

end Go.AM
