/- The executor: its steps are sound. -/
import Derived.Test.YtlkbcjhemhmfoaaGreatDoorMe
section
/- What a walk over lists says of the machine: a run's first event, and what is to be shown of it. No program here. -/
set_option linter.unusedSimpArgs false
set_option linter.unusedVariables false
namespace Go.AM
open Go

theorem pure_indep {X : Env} {ev0 ev : Operand → AV} {op : Op} (hP : isP ev0 op = true) {h : H} {id : Nat} {v : AV} (ha : aop X ev h id op = some (v, h)) (h2 : H) (id2 : Nat) : aop X ev h2 id2 op = some (v, h2) := by
  cases op with
  | move x => simp only [aop, Option.some.injEq, Prod.mk.injEq, and_true] at ha ⊢; exact ha
  | assign x => simp only [aop, Option.some.injEq, Prod.mk.injEq, and_true] at ha ⊢; exact ha
  | pick c a b =>
    simp only [aop] at ha ⊢
    split at ha
    · simp only [Option.some.injEq, Prod.mk.injEq, and_true] at ha ⊢; exact ha
    · cases ha
  | nilCheck x =>
    simp only [aop] at ha ⊢
    split at ha
    · simp only [Option.some.injEq, Prod.mk.injEq, and_true] at ha ⊢; exact ha
    · simp only [Option.some.injEq, Prod.mk.injEq, and_true] at ha ⊢; exact ha
    · cases ha
  | binOp => simp only [aop, Option.map_eq_some_iff, Prod.mk.injEq, and_true] at ha ⊢; exact ha
  | unOp => simp only [aop, Option.map_eq_some_iff, Prod.mk.injEq, and_true] at ha ⊢; exact ha
  | convert =>
    simp only [aop] at ha ⊢
    split at ha
    · simp only [Option.some.injEq, Prod.mk.injEq, and_true] at ha ⊢; exact ha
    · cases ha
  | makeFunc fn first caps =>
    cases fn with
    | func f =>
      simp only [aop] at ha ⊢
      split at ha
      · rename_i hf
        rw [if_pos hf]
        simp only [Option.map_eq_some_iff, Prod.mk.injEq, and_true] at ha ⊢; exact ha
      · cases ha
    | _ => simp [aop] at ha
  | fieldAddr t x f =>
    simp only [aop] at ha ⊢
    split at ha
    · simp only [Option.bind_eq_some_iff] at ha ⊢
      obtain ⟨q, hq, ha⟩ := ha
      refine ⟨q, hq, ?_⟩
      split at ha
      · rename_i hc
        rw [if_pos hc]
        simp only [Option.some.injEq, Prod.mk.injEq, and_true] at ha ⊢; exact ha
      · cases ha
    · cases ha
  | field t x f =>
    simp only [aop] at ha ⊢
    split at ha
    · simp only [Option.bind_eq_some_iff] at ha ⊢
      obtain ⟨q, hq, ha⟩ := ha
      refine ⟨q, hq, ?_⟩
      split at ha
      · rename_i hc
        rw [if_pos hc]
        simp only [Option.map_eq_some_iff, Prod.mk.injEq, and_true] at ha ⊢; exact ha
      · cases ha
    · cases ha
  | index t x i =>
    simp only [aop] at ha ⊢
    split at ha
    · split at ha
      · rename_i hc
        rw [if_pos hc]
        simp only [Option.map_eq_some_iff, Prod.mk.injEq, and_true] at ha ⊢; exact ha
      · cases ha
    · cases ha
  | extract x i =>
    simp only [aop] at ha ⊢
    split at ha
    · simp only [Option.bind_eq_some_iff, Option.map_eq_some_iff, Prod.mk.injEq, and_true] at ha ⊢; exact ha
    · cases ha
  | build t parts =>
    simp only [aop] at ha ⊢
    split at ha
    · split at ha
      · rename_i hc
        rw [if_pos hc]
        simp only [Option.map_eq_some_iff, Prod.mk.injEq, and_true] at ha ⊢; exact ha
      · cases ha
    · cases ha
  | call c =>
    obtain ⟨cal, args, ats⟩ := c
    cases cal with
    | builtin b =>
      simp only [isP] at hP
      simp only [aop] at ha ⊢
      generalize ats.toList = ts at ha ⊢
      generalize args.toList.map ev = as at ha ⊢
      cases b <;> simp at hP
      all_goals
        unfold abuiltin at ha ⊢
        split at ha <;> simp_all
      all_goals
        split at ha <;> simp_all
    | _ => simp [isP] at hP
  | _ => simp [isP] at hP

/-! ### What is to be shown of an event -/
abbrev KC := Ex → P → BL → Nat → Prop

noncomputable def clOf (bl : BL) (j : Nat) : Option (Bool × Cl) := blk bl j fun w _ c => some (w, c)
def nodupB : List Nat → Bool
  | [] => true
  | n :: l => !memN n l && nodupB l
/-- A load of cells as they are. -/
def LoadR (l : List Sc) (off n : Nat) (agg : Bool) (v : AV) : Prop := off + n ≤ l.length ∧ mkAV agg ((l.drop off).take n) = some v ∧ v.flat = true
def StoreR (l : List Sc) (off : Nat) (xs l' : List Sc) : Prop := off + xs.length ≤ l.length ∧ l' = l.take off ++ xs ++ l.drop (off + xs.length)
/-- A load out of something: a value without addresses. -/
def LoadS (r : Res) (off n : Nat) (agg : Bool) (v : AV) : Prop := v.flat = true ∧ ∀ b h, r.R b h → r.F b h b ∧ ∃ l, h.load b off n = some l ∧ mkAV agg l = some v
/-- A load out of something: a slice of cells as they are. -/
def LoadRow (r : Res) (off n : Nat) (full : Bool) (sz : Nat) (c : List Sc) : Prop := ∀ b h, r.R b h → r.F b h b ∧ ((∃ bi, h.load b off 1 = some [.sl (some (bi, 0)) n full sz] ∧ h.get bi = some c ∧ r.F b h bi) ∨ (n = 0 ∧ c = [] ∧ h.load b off 1 = some [.sl none 0 true 0]))
/-- Cells of a slice. -/
def CellsR (l : List Sc) (o n : Nat) (xs : List Sc) : Prop := o + n ≤ l.length ∧ xs = (l.drop o).take n
def ContR (c : Cl) (o n : Nat) (xs : List Sc) : Prop := match c with
  | .raw l => CellsR l o n xs
  | .ex l => allB flatSc l = true ∧ CellsR l o n xs
  | .res _ => False
/-- The cells of a slice. -/
def Src (size : Nat) (bl : BL) (a : Option (Nat × Nat)) (n sz : Nat) (xs : List Sc) : Prop := match a with
  | none => n = 0 ∧ xs = []
  | some (j, o) => sz = size ∧ ∃ w c, clOf bl j = some (w, c) ∧ ContR c o (n * size) xs

noncomputable section
variable {ρ : Type}
def jsK : BL → (List Nat → Option ρ) → Option ρ
  | [], k => k []
  | ⟨j, _, _, _⟩ :: l, k => jsK l (fun js => k (j :: js))
def oldAll (mods : List Nat) : BL → Bool
  | [] => true
  | ⟨j, _, b, _⟩ :: l => (!memN j mods || (match b with | none => true | some _ => false)) && oldAll mods l
/-- A place of a callee, at the caller. -/
def fwdJ (tl : List (Option Nat)) (nb0 nb j : Nat) : Option Nat := bif Nat.blt j nb0 then (match nth tl j with | some (some j') => bif Nat.blt j' nb then some j' else none | _ => none) else some (nb + (j - nb0))
def fwdScK (fj : Nat → Option Nat) (s : Sc) (k : Sc → Option ρ) : Option ρ := match s with
  | .ptr (some (j, o)) => (match fj j with | some j' => k (.ptr (some (j', o))) | none => none)
  | .sl (some (j, o)) n f z => (match fj j with | some j' => k (.sl (some (j', o)) n f z) | none => none)
  | .fn g caps => (match caps with | [] => k (.fn g []) | _ => none)
  | s => k s
def fwdLK (fj : Nat → Option Nat) : List Sc → (List Sc → Option ρ) → Option ρ
  | [], k => k []
  | s :: l, k => fwdScK fj s fun s' => fwdLK fj l fun l' => k (s' :: l')
def fwdTK (fj : Nat → Option Nat) : List (Bool × List Sc) → (List (Bool × List Sc) → Option ρ) → Option ρ
  | [], k => k []
  | (b, s) :: l, k => fwdLK fj s fun s' => fwdTK fj l fun l' => k ((b, s') :: l')
def fwdAVK (fj : Nat → Option Nat) (v : AV) (k : AV → Option ρ) : Option ρ := match v with
  | .one s => fwdScK fj s fun s' => k (.one s')
  | .agg l => fwdLK fj l fun l' => k (.agg l')
  | .tup l => fwdTK fj l fun l' => k (.tup l')
  | .top => k .top
def fwdBK (fj : Nat → Option Nat) : BL → (BL → Option ρ) → Option ρ
  | [], k => k []
  | ⟨j, w, born, c⟩ :: l, k => match fj j with
    | some j' => (match c with
      | .ex cs => fwdLK fj cs fun cs' => fwdBK fj l fun l' => k (⟨j', w, born, .ex cs'⟩ :: l')
      | .raw cs => fwdBK fj l fun l' => k (⟨j', w, born, .raw cs⟩ :: l')
      | .res r => fwdBK fj l fun l' => k (⟨j', w, born, .res r⟩ :: l'))
    | none => none
/-- The caller's places of the blocks that may be written. -/
def wFrom (tl : List (Option Nat)) : BL → (List Nat → Option ρ) → Option ρ
  | [], k => k []
  | ⟨j, w, _, _⟩ :: l, k => wFrom tl l fun js => match w with
    | false => k js
    | true => match nth tl j with | some (some j') => k (j' :: js) | some none => k js | none => none
def callSt (C : Cx) (i : Nat) (tl : List (Option Nat)) (nb0 : Nat) (bl0 : BL) (v : AV) (Ba : BL) (nb' : Nat) (st : St) : Option (AV × St) := match st with
  | ⟨p, dc, bl, nb, sp, ss⟩ => wFrom tl bl0 fun mods => bif C.dr && !oldAll mods bl then none else delsK mods bl fun bl1 => fwdBK (fwdJ tl nb0 nb) Ba fun Ba' => appK Ba' bl1 fun bl' => bif nodupB (bl'.map Bk.j) then
      jsK Ba' fun js => appK mods js fun ms => wroteK C i ms sp ss fun sp' ss' => fwdAVK (fwdJ tl nb0 nb) v fun v' => some (v', ⟨p, dc, bl', nb + (nb' - nb0), sp', ss'⟩) else none
def appSt (C : Cx) (i : Nat) (l : List Sc) (mods : List Nat) (st : St) : Option St := match st with
  | ⟨p, dc, bl, nb, sp, ss⟩ => delsK mods bl fun bl1 => wroteK C i (nb :: mods) sp ss fun sp' ss' => some ⟨p, dc, ⟨nb, true, some i, .raw l⟩ :: bl1, nb + 1, sp', ss'⟩
def app0St (C : Cx) (i : Nat) (st : St) : Option St := match st with
  | ⟨p, dc, bl, nb, sp, ss⟩ => wroteK C i [] sp ss fun sp' ss' => some ⟨p, dc, bl, nb, sp', ss'⟩
def updSt (j : Nat) (l : List Sc) (st : St) : Option St := match st with
  | ⟨p, dc, bl, nb, sp, ss⟩ => updK bl j (.raw l) fun bl' => some ⟨p, dc, bl', nb, sp, ss⟩
def rowSt (C : Cx) (l : List Sc) (st : St) : Option St := match st with
  | ⟨p, dc, bl, nb, sp, ss⟩ => newK C nb ss fun ss' => some ⟨p, dc, ⟨nb, false, none, .raw l⟩ :: bl, nb + 1, sp, ss'⟩
end

/-- A call and what it leaves: 'bl': the blocks that it looks at; behind it: for some a, the value V a, the written ones and new ones B a. -/
def Ct (X : Env) (g : FuncId) (args : List AV) (bl : BL) (nb : Nat) (A : Type) (V : A → AV) (B : A → BL) (nb' : A → Nat) : Prop :=
  ∀ σ args' h, LR (RAV σ) args args' → BlOK σ bl h → h.ro ≤ h.nx → (∀ j, nb ≤ j → σ j = none) →
    CallsQ X g args' h fun v' h' => ∃ a σ', (∀ j, j < nb → σ' j = σ j) ∧ (∀ j, nb' a ≤ j → σ' j = none) ∧ h.nx ≤ h'.nx ∧ h'.ro = h.ro ∧ RAV σ' (V a) v' ∧ BlOK σ' (B a) h' ∧
      (∀ i, i < h.nx → ¬ WrB σ bl h i → h'.get i = h.get i) ∧ (∀ e ∈ B a, ∀ i, Foot σ' h' e i → h.nx ≤ i ∨ WrB σ bl h i) ∧ (∀ e ∈ B a, e.born = none)

/-! ### What is known, told otherwise -/
def RvCaps (tl : List (Option Nat)) : List (Nat × Nat) → List (Nat × Nat) → Prop
  | [], l => l = []
  | (j, o) :: cs, l => match l with
    | [] => False
    | y :: ys => (match nth tl j with | some (some j') => y = (j', o) | _ => False) ∧ RvCaps tl cs ys
def RvSc (tl : List (Option Nat)) : Sc → Sc → Prop
  | .ptr (some (j, o)), s => (match nth tl j with | some (some j') => s = .ptr (some (j', o)) | _ => False)
  | .sl (some (j, o)) n f z, s => (match nth tl j with | some (some j') => s = .sl (some (j', o)) n f z | some none => n = 0 ∧ s = .sl none 0 true 0 | none => False)
  | .fn g caps, s => (match s with | .fn g' caps' => g' = g ∧ RvCaps tl caps caps' | _ => False)
  | x, s => s = x
def RvL (tl : List (Option Nat)) : List Sc → List Sc → Prop
  | [], l => l = []
  | x :: xs, l => match l with
    | [] => False
    | y :: ys => RvSc tl x y ∧ RvL tl xs ys
def RvT (tl : List (Option Nat)) : List (Bool × List Sc) → List (Bool × List Sc) → Prop
  | [], l => l = []
  | x :: xs, l => match l with
    | [] => False
    | y :: ys => y.1 = x.1 ∧ RvL tl x.2 y.2 ∧ RvT tl xs ys
def RvAV (tl : List (Option Nat)) : AV → AV → Prop
  | .one x, v => (match v with | .one s => RvSc tl x s | _ => False)
  | .agg l, v => (match v with | .agg l' => (l' = l ∧ allB flatSc l = true) ∨ RvL tl l l' | _ => False)
  | .tup l, v => (match v with | .tup l' => (l' = l ∧ (AV.tup l).flat = true) ∨ RvT tl l l' | _ => False)
  | .top, _ => True
def RvP (tl : List (Option Nat)) (p : P) : P → Prop
  | [] => True
  | (n, v) :: q => RvAV tl v (P.get p n) ∧ RvP tl p q
/-- Cells as they are that make something. -/
def OfRaw (r : Res) (l : List Sc) : Prop := l ≠ [] ∧ ∀ b h, h.get b = some l → r.R b h ∧ ∀ i, r.F b h i ↔ i = b
def RvCl (tl : List (Option Nat)) : Cl → Cl → Prop
  | .raw l, c => (match c with | .raw l' => l' = l | .ex l' => l' = l ∧ allB flatSc l = true | .res _ => False)
  | .ex l, c => (match c with | .ex l' => RvL tl l l' | _ => False)
  | .res r, c => (match c with | .res r' => r' = r | .raw l => OfRaw r l | _ => False)
def RvBL (tl : List (Option Nat)) (bl : BL) : BL → Prop
  | [] => True
  | ⟨j, w, _, c⟩ :: l => (match nth tl j with | some (some j') => ∃ w' c', clOf bl j' = some (w', c') ∧ (w = true → w' = true) ∧ RvCl tl c c' | some none => c = .raw [] | none => False) ∧ RvBL tl bl l
/-- Which places the blocks come from. -/
def fromJ (tl : List (Option Nat)) : BL → List Nat
  | [] => []
  | ⟨j, _, _, _⟩ :: l => match nth tl j with | some (some j') => j' :: fromJ tl l | _ => fromJ tl l
/-- The first places mean what they meant. -/
def idTl (k : Nat) (tl : List (Option Nat)) : Bool := allB (fun j => match nth tl j with | some (some j') => Nat.beq j' j | _ => false) (List.range k)
structure ReB (k : Nat) (tl : List (Option Nat)) (p : P) (bl : BL) (p2 : P) (bl2 : BL) (nb2 : Nat) : Prop where
  len : lenK tl nb2 = true
  kn : Nat.ble k nb2 = true
  id : idTl k tl = true
  nd : nodupB (fromJ tl bl2) = true
  nd2 : nodupB (bl2.map Bk.j) = true
  p : RvP tl p p2
  bl : RvBL tl bl bl2

noncomputable def stackQ (X : Env) (nt : Nat) : List Kt → (Ex → FF → H → Prop) → (Ex → FF → H → Prop)
  | [], Q => Q
  | .seq b :: S, Q => ThenF (fun f h => RunsF X nt b f h (stackQ X nt S Q)) (stackQ X nt S Q)
  | .block id :: S, Q => InBlockF id (stackQ X nt S Q)
def DcR (dc : DC) (f : FF) : Prop := ∀ d b, dcGet dc d = some b → f d = .one (.bool b)

noncomputable def Sem (X : Env) (nt : Nat) (F : Fo) (S : List Kt) (st : St) (G : Gh) (Q : Ex → FF → H → Prop) : Prop := match F with
  | .code c => ∀ σ f h, SI G σ st.p st.bl st.nb f h → RunsF X nt c f h (stackQ X nt S Q)
  | .leave e => ∀ σ f h, SI G σ st.p st.bl st.nb f h → stackQ X nt S Q e f h
  | .reg C rest i => ∀ c σ f h, SI G σ st.p st.bl st.nb f h → RG C.dr c C.ops.length i σ st.bl G.h h → DcR st.dc f → i + rest.length = C.ops.length → SeqD X nt C c i rest f h σ st.bl st.sp st.ss (stackQ X nt S Q .norm)
  | .op C o rest i => ∀ c σ f h, SI G σ st.p st.bl st.nb f h → RG C.dr c C.ops.length i σ st.bl G.h h → DcR st.dc f → i + (rest.length + 1) = C.ops.length → wantedF C.ops f o = some true → SeqD X nt C c i (o :: rest) f h σ st.bl st.sp st.ss (stackQ X nt S Q .norm)
  | .put C dst v rest i => ∀ c σ f h v', SI G σ st.p st.bl st.nb f h → RAV σ v v' → RG C.dr c C.ops.length (i + 1) σ st.bl G.h h → DcR st.dc f → i + (rest.length + 1) = C.ops.length → ∃ f1, putF nt f dst v' = some f1 ∧ SeqD X nt C c (i + 1) rest f1 h σ st.bl st.sp st.ss (stackQ X nt S Q .norm)

/-- From what is known of the slots and blocks, the run comes to what K says. -/
def Run (X : Env) (nt k : Nat) (F : Fo) (S : List Kt) (st : St) (K : KC) : Prop :=
  ∀ G : Gh, G.k = k → ∀ Q, (∀ e p bl nb, K e p bl nb → ∀ σ f h, SI G σ p bl nb f h → Q e f h) → Sem X nt F S st G Q

def Run.Put (X : Env) (nt k : Nat) (v : AV) (r : Rs) (st : St) (K : KC) : Prop := Run X nt k (.put r.C r.o.dst v r.rest r.i) r.S st K

def RvArgs (tl : List (Option Nat)) : List AV → List AV → Prop
  | [], l => l = []
  | x :: xs, l => match l with
    | [] => False
    | y :: ys => RvAV tl x y ∧ RvArgs tl xs ys
def CallH (X : Env) (nt k : Nat) (K : KC) (g : FuncId) (args : List AV) (r : Rs) (st : St) : Prop :=
  ∃ (A : Type) (V : A → AV) (B : A → BL) (nb' : A → Nat) (tl : List (Option Nat)) (args0 : List AV) (bl0 : BL) (nb0 : Nat), Ct X g args0 bl0 nb0 A V B nb' ∧
    lenK tl nb0 = true ∧ RvArgs tl args0 args ∧ RvBL tl st.bl bl0 ∧ nodupB (fromJ tl bl0) = true ∧ nodupB (bl0.map Bk.j) = true ∧
    (match r.C.dr && !isW X r.o.op with
      | true => noMask (r.C.bs.getD r.i 0) 0 r.C.ops = true ∧ (∀ e ∈ bl0, e.w = false) ∧ ∀ a, (V a).flat = true ∧ Run.Put X nt k (V a) r st K
      | false => ∀ a, ∃ v' st', callSt r.C r.i tl nb0 bl0 (V a) (B a) (nb' a) st = some (v', st') ∧ Run.Put X nt k v' r st' K)
def nilOr (a : Option (Nat × Nat)) (n : Nat) (full : Bool) (sz : Nat) : Sc := match a with
  | none => .sl none 0 true 0
  | some x => .sl (some x) n full sz
def AppH (X : Env) (nt k : Nat) (K : KC) (e : TypeId) (a : Option (Nat × Nat)) (sn : Nat) (full : Bool) (sz : Nat) (a' : Option (Nat × Nat)) (xn sz' : Nat) (r : Rs) (st : St) : Prop :=
  ∃ old new, Src (X.T e).size st.bl a sn sz old ∧ Src (X.T e).size st.bl a' xn sz' new ∧ (Nat.blt 0 (X.T e).size && lenK (X.T e).zero (X.T e).size) = true ∧
    (sn + xn) * (X.T e).bytes ≤ 35184372088832 ∧ sn + xn ≤ 35184372088832 ∧
    (xn = 0 → ∃ st', app0St r.C r.i st = some st' ∧ Run.Put X nt k (.one (nilOr a sn full sz)) r st' K) ∧
    (0 < xn → (full = true ∨ a = none → ∃ st', appSt r.C r.i (old ++ new) [] st = some st' ∧ Run.Put X nt k (.one (.sl (some (st.nb, 0)) (sn + xn) false (X.T e).size)) r st' K) ∧
      (full = false → ∀ j o, a = some (j, o) → ∃ c, clOf st.bl j = some (true, c) ∧ (∀ s, c ≠ .res s) ∧ ∃ st', appSt r.C r.i (old ++ new) [j] st = some st' ∧ Run.Put X nt k (.one (.sl (some (st.nb, 0)) (sn + xn) false (X.T e).size)) r st' K))
def LoopH (X : Env) (nt k : Nat) (K : KC) (b : Code) (S : List Kt) (st : St) : Prop :=
  ∃ (T : Type) (m : T → Nat) (I : T → Prop) (ip : T → P) (ib : T → BL) (inb : T → Nat), (∃ t tl, I t ∧ ReB k tl st.p st.bl (ip t) (ib t) (inb t)) ∧
    ∀ t, I t → Run X nt k (.code b) [] ⟨ip t, [], ib t, inb t, [], []⟩ fun e p' bl' nb' => match e with
      | .norm => ∃ t' tl, m t' < m t ∧ I t' ∧ ReB k tl p' bl' (ip t') (ib t') (inb t')
      | e => Run X nt k (.leave e) S ⟨p', [], bl', nb', [], []⟩ K

def EvH (X : Env) (nt k : Nat) (K : KC) : Ev → Prop
  | .fin e p bl nb => K e p bl nb
  | .split b S f1 st1 f2 st2 => (b = true → Run X nt k f1 S st1 K) ∧ (b = false → Run X nt k f2 S st2 K)
  | .loop b S st => LoopH X nt k K b S st
  | .draw ops S st => ∃ bs, befs ops = bs ∧ drawOK X ops = true ∧ Run X nt k (.reg ⟨ops, true, bs⟩ ops 0) S st K
  | .ask A v r st => A ∧ Run.Put X nt k v r st K
  | .loadR l off n agg r st => ∃ v, LoadR l off n agg v ∧ Run.Put X nt k v r st K
  | .loadS s w off n agg r st => (∃ v, LoadS s off n agg v ∧ Run.Put X nt k v r st K) ∨
      (w = false ∧ n = 1 ∧ agg = false ∧ ∃ m full sz c, LoadRow s off m full sz c ∧ ∃ st', rowSt r.C c st = some st' ∧ Run.Put X nt k (.one (.sl (some (st.nb, 0)) m full sz)) r st' K)
  | .storeR l j off xs r st => ∃ l', StoreR l off xs l' ∧ ∃ st', updSt j l' st = some st' ∧ Run.Put X nt k undefA r st' K
  | .call g args r st => CallH X nt k K g args r st ∨ Run X nt k (.op r.C r.o r.rest r.i) r.S st K
  | .app e a sn full sz a' xn sz' r st => AppH X nt k K e a sn full sz a' xn sz' r st
  | .odd r st => Run X nt k (.op r.C r.o r.rest r.i) r.S st K

/-! ### Lists of places -/
theorem nodupB_ok : ∀ {l : List Nat}, nodupB l = true → l.Nodup
  | [], _ => List.nodup_nil
  | n :: l, h => by
    unfold nodupB at h
    rw [Bool.and_eq_true, Bool.not_eq_true'] at h
    exact List.nodup_cons.2 ⟨memN_false h.1, nodupB_ok h.2⟩
theorem clOf_ok {bl : BL} {j : Nat} {w : Bool} {c : Cl} (h : clOf bl j = some (w, c)) : ∃ e ∈ bl, e.j = j ∧ e.w = w ∧ e.c = c := by
  unfold clOf at h
  obtain ⟨w', born, c', h1, h2⟩ := blk_ok h
  injection h2 with h2
  injection h2 with h2 h3
  exact ⟨_, h1, rfl, h2, h3⟩
theorem ent_congr {σ : Sg} {h : H} {e e' : Bk} (hj : e'.j = e.j) (hc : e'.c = e.c) : (Ent σ h e' ↔ Ent σ h e) ∧ ∀ x, Foot σ h e' x ↔ Foot σ h e x := by
  unfold Ent Foot
  rw [hj, hc]
  exact ⟨Iff.rfl, fun _ => Iff.rfl⟩
theorem jsK_ok {ρ : Type} {r : ρ} : ∀ {l : BL} {k : List Nat → Option ρ}, jsK l k = some r → k (l.map Bk.j) = some r
  | [], k, h => h
  | ⟨j, w, b, c⟩ :: l, k, h => by
    unfold jsK at h
    exact jsK_ok (l := l) (k := fun js => k (j :: js)) h

/-! ### What is known, told otherwise: sound -/
def reσ (tl : List (Option Nat)) (σ : Sg) : Sg := fun j => match nth tl j with
  | some (some j') => σ j'
  | some none => some none
  | none => none
theorem RvCaps_ok {tl : List (Option Nat)} {σ : Sg} : ∀ {x s s' : List (Nat × Nat)}, RvCaps tl x s → LR (RPt σ) s s' → LR (RPt (reσ tl σ)) x s'
  | [], s, s', h, r => by
    have h : s = [] := h
    subst h
    cases s' with
    | nil => trivial
    | cons => exact r.elim
  | (j, o) :: xs, [], s', h, r => h.elim
  | (j, o) :: xs, y :: ys, s', h, r => by
    cases s' with
    | nil => exact r.elim
    | cons z zs =>
      obtain ⟨h1, h2⟩ := h
      obtain ⟨r1, r2⟩ := r
      refine ⟨?_, RvCaps_ok h2 r2⟩
      split at h1
      · rename_i j' e
        subst h1
        obtain ⟨b, hb, hc⟩ := r1
        exact ⟨b, by unfold reσ; rw [e]; exact hb, hc⟩
      · exact h1.elim
theorem RvSc_ok {tl : List (Option Nat)} {σ : Sg} {x s s' : Sc} (h : RvSc tl x s) (r : RSc σ s s') : RSc (reσ tl σ) x s' := by
  cases x with
  | ptr a => cases a with
    | none => have h : s = _ := h; subst h; exact r
    | some a =>
      obtain ⟨j, o⟩ := a
      simp only [RvSc] at h
      split at h
      · rename_i j' e
        subst h
        obtain ⟨a', rfl, b, hb, rfl⟩ := r
        exact ⟨_, rfl, b, by unfold reσ; rw [e]; exact hb, rfl⟩
      · exact h.elim
  | sl a n f z => cases a with
    | none => have h : s = _ := h; subst h; exact r
    | some a =>
      obtain ⟨j, o⟩ := a
      simp only [RvSc] at h
      split at h
      · rename_i j' e
        subst h
        rcases r with ⟨b, hb, rfl⟩ | ⟨hb, h1, rfl⟩
        · exact .inl ⟨b, by unfold reσ; rw [e]; exact hb, rfl⟩
        · exact .inr ⟨by unfold reσ; rw [e]; exact hb, h1, rfl⟩
      · rename_i e
        obtain ⟨h1, rfl⟩ := h
        have r : s' = _ := r
        exact .inr ⟨by unfold reσ; rw [e], h1, r⟩
      · exact h.elim
  | fn g caps =>
    simp only [RvSc] at h
    split at h
    · rename_i g' caps'
      obtain ⟨rfl, h⟩ := h
      obtain ⟨cs, rfl, hc⟩ := r
      exact ⟨cs, rfl, RvCaps_ok h hc⟩
    · exact h.elim
  | _ => have h : s = _ := h; subst h; exact r
theorem RvL_ok {tl : List (Option Nat)} {σ : Sg} : ∀ {x s s' : List Sc}, RvL tl x s → LR (RSc σ) s s' → LR (RSc (reσ tl σ)) x s'
  | [], s, s', h, r => by
    have h : s = [] := h
    subst h
    cases s' with
    | nil => trivial
    | cons => exact r.elim
  | x :: xs, [], s', h, r => h.elim
  | x :: xs, s :: ss, s', h, r => by
    cases s' with
    | nil => exact r.elim
    | cons y ys => exact ⟨RvSc_ok h.1 r.1, RvL_ok h.2 r.2⟩
theorem RvT_ok {tl : List (Option Nat)} {σ : Sg} : ∀ {x s s' : List (Bool × List Sc)}, RvT tl x s → LR (REl σ) s s' → LR (REl (reσ tl σ)) x s'
  | [], s, s', h, r => by
    have h : s = [] := h
    subst h
    cases s' with
    | nil => trivial
    | cons => exact r.elim
  | x :: xs, [], s', h, r => h.elim
  | x :: xs, s :: ss, s', h, r => by
    cases s' with
    | nil => exact r.elim
    | cons y ys => exact ⟨⟨r.1.1.trans h.1, RvL_ok h.2.1 r.1.2⟩, RvT_ok h.2.2 r.2⟩
theorem RvAV_ok {tl : List (Option Nat)} {σ : Sg} {x v v' : AV} (h : RvAV tl x v) (r : RAV σ v v') : RAV (reσ tl σ) x v' := by
  cases x with
  | one x =>
    simp only [RvAV] at h
    split at h
    · obtain ⟨s', rfl, r⟩ := r; exact ⟨s', rfl, RvSc_ok h r⟩
    · exact h.elim
  | agg l =>
    simp only [RvAV] at h
    split at h
    · obtain ⟨l', rfl, r⟩ := r
      rcases h with ⟨rfl, hf⟩ | h
      · rw [LR.flat hf r]; exact ⟨_, rfl, LR.of_flat hf⟩
      · exact ⟨l', rfl, RvL_ok h r⟩
    · exact h.elim
  | tup l =>
    simp only [RvAV] at h
    split at h
    · rcases h with ⟨rfl, hf⟩ | h
      · rw [RAV.flat hf r]; exact RAV.of_flat hf
      · obtain ⟨l', rfl, r⟩ := r
        exact ⟨l', rfl, RvT_ok h r⟩
    · exact h.elim
  | top => trivial
theorem RvP_ok {tl : List (Option Nat)} {σ : Sg} {f : FF} {p : P} (a : Ag σ f p) : ∀ {p2 : P}, RvP tl p p2 → Ag (reσ tl σ) f p2
  | [], _ => fun n => trivial
  | (m, v) :: q, h => (RvP_ok a h.2).over m (RvAV_ok h.1 (a m))

theorem RvBL_mem {tl : List (Option Nat)} {bl : BL} : ∀ {bl2 : BL}, RvBL tl bl bl2 → ∀ e ∈ bl2, (∃ j' e', nth tl e.j = some (some j') ∧ e' ∈ bl ∧ e'.j = j' ∧ (e.w = true → e'.w = true) ∧ RvCl tl e.c e'.c ∧ j' ∈ fromJ tl bl2) ∨ (nth tl e.j = some none ∧ e.c = .raw [])
  | ⟨j, w, b, c⟩ :: l, h, e, he => by
    rcases List.mem_cons.1 he with e1 | e1
    · subst e1
      have h1 := h.1
      split at h1
      · rename_i j' ej
        obtain ⟨w', c', hc, hw, hr⟩ := h1
        obtain ⟨e', he', hj, hw', hc'⟩ := clOf_ok hc
        refine .inl ⟨j', e', ej, he', hj, fun x => by rw [hw']; exact hw x, by rw [hc']; exact hr, ?_⟩
        unfold fromJ; rw [ej]; exact List.mem_cons_self
      · rename_i ej; exact .inr ⟨ej, h1⟩
      · exact h1.elim
    · rcases RvBL_mem h.2 e e1 with ⟨j', e', h1, h2, h3, h4, h5, h6⟩ | h1
      · refine .inl ⟨j', e', h1, h2, h3, h4, h5, ?_⟩
        unfold fromJ
        split
        · exact List.mem_cons_of_mem _ h6
        · exact h6
      · exact .inr h1
/-- Different places come from different ones. -/
theorem fromJ_inj {tl : List (Option Nat)} : ∀ {bl2 : BL}, (fromJ tl bl2).Nodup → ∀ e ∈ bl2, ∀ e2 ∈ bl2, ∀ j', nth tl e.j = some (some j') → nth tl e2.j = some (some j') → e = e2
  | ⟨j, w, b, c⟩ :: l, hn, e, he, e2, he2, j', h1, h2 => by
    have mem : ∀ (l : BL) (e : Bk), e ∈ l → nth tl e.j = some (some j') → j' ∈ fromJ tl l := by
      intro l
      induction l with
      | nil => intro e he; cases he
      | cons a l ih =>
        intro e he h
        unfold fromJ
        rcases List.mem_cons.1 he with e1 | e1
        · subst e1; rw [h]; exact List.mem_cons_self
        · split
          · exact List.mem_cons_of_mem _ (ih e e1 h)
          · exact ih e e1 h
    have hn' : (fromJ tl l).Nodup := by
      unfold fromJ at hn
      split at hn
      · exact (List.nodup_cons.1 hn).2
      · exact hn
    rcases List.mem_cons.1 he with e1 | e1
    · rcases List.mem_cons.1 he2 with g1 | g1
      · rw [e1, g1]
      · subst e1
        unfold fromJ at hn
        rw [show nth tl (⟨j, w, b, c⟩ : Bk).j = nth tl j from rfl] at h1
        rw [h1] at hn
        exact absurd (mem l e2 g1 h2) (List.nodup_cons.1 hn).1
    · rcases List.mem_cons.1 he2 with g1 | g1
      · subst g1
        unfold fromJ at hn
        rw [show nth tl (⟨j, w, b, c⟩ : Bk).j = nth tl j from rfl] at h2
        rw [h2] at hn
        exact absurd (mem l e e1 h1) (List.nodup_cons.1 hn).1
      · exact fromJ_inj hn' e e1 e2 g1 j' h1 h2

theorem RvEnt {tl : List (Option Nat)} {σ : Sg} {h : H} {e e' : Bk} {j' : Nat} (hj : nth tl e.j = some (some j')) (hj' : e'.j = j') (hc : RvCl tl e.c e'.c) (x : Ent σ h e') : Ent (reσ tl σ) h e ∧ ∀ i, Foot (reσ tl σ) h e i ↔ Foot σ h e' i := by
  have hσ : reσ tl σ e.j = σ e'.j := by unfold reσ; rw [hj, hj']
  unfold Ent Foot at *
  rw [hσ]
  cases hs : σ e'.j with
  | none => rw [hs] at x; exact x.elim
  | some r =>
    rw [hs] at x
    cases r with
    | none =>
      refine ⟨?_, fun _ => Iff.rfl⟩
      have x : e'.c = .raw [] := x
      show e.c = .raw []
      cases hec : e.c with
      | raw l => rw [hec, x] at hc; have hc : [] = l := hc; rw [← hc]
      | ex l => rw [hec, x] at hc; exact hc.elim
      | res r => rw [hec, x] at hc; exact absurd rfl (show OfRaw r [] from hc).1
    | some b =>
      dsimp only at x ⊢
      cases hec : e.c with
      | raw l =>
        rw [hec] at hc
        cases hec' : e'.c with
        | raw l' => rw [hec'] at hc x; have hc : l' = l := hc; subst hc; exact ⟨x, fun _ => Iff.rfl⟩
        | ex l' =>
          rw [hec'] at hc x
          obtain ⟨rfl, hf⟩ := hc
          obtain ⟨l2, h1, h2⟩ := x
          rw [LR.flat hf h2] at h1
          exact ⟨h1, fun _ => Iff.rfl⟩
        | res r => rw [hec'] at hc; exact hc.elim
      | ex l =>
        rw [hec] at hc
        cases hec' : e'.c with
        | ex l' =>
          rw [hec'] at hc x
          obtain ⟨l2, h1, h2⟩ := x
          exact ⟨⟨l2, h1, RvL_ok hc h2⟩, fun _ => Iff.rfl⟩
        | raw l' => rw [hec'] at hc; exact hc.elim
        | res r => rw [hec'] at hc; exact hc.elim
      | res r =>
        rw [hec] at hc
        cases hec' : e'.c with
        | res r' => rw [hec'] at hc x; have hc : r' = r := hc; subst hc; exact ⟨x, fun _ => Iff.rfl⟩
        | raw l' => rw [hec'] at hc x; have hc : OfRaw r l' := hc; exact hc.2 b h x
        | ex l' => rw [hec'] at hc; exact hc.elim

theorem RvBL.ok {tl : List (Option Nat)} {bl bl2 : BL} {σ : Sg} {h : H} (r : RvBL tl bl bl2) (nd : nodupB (fromJ tl bl2) = true) (nd2 : nodupB (bl2.map Bk.j) = true) (s : BlOK σ bl h) :
    BlOK (reσ tl σ) bl2 h ∧ ∀ e ∈ bl2, ∀ i, Foot (reσ tl σ) h e i → ∃ e' ∈ bl, (∃ j', nth tl e.j = some (some j') ∧ e'.j = j') ∧ (e.w = true → e'.w = true) ∧ Foot σ h e' i := by
  have nilF : ∀ e : Bk, nth tl e.j = some none → ∀ i, ¬ Foot (reσ tl σ) h e i := fun e he i hi => by
    unfold Foot reσ at hi
    rw [he] at hi; exact hi
  have old : ∀ e ∈ bl2, ∀ i, Foot (reσ tl σ) h e i → ∃ e' ∈ bl, (∃ j', nth tl e.j = some (some j') ∧ e'.j = j') ∧ (e.w = true → e'.w = true) ∧ Foot σ h e' i := fun e he i hi => by
    rcases RvBL_mem r e he with ⟨j', e', h1, h2, h3, h4, h5, h6⟩ | ⟨h1, h2⟩
    · exact ⟨e', h2, ⟨j', h1, h3⟩, h4, ((RvEnt h1 h3 h5 (s.ent e' h2)).2 i).1 hi⟩
    · exact absurd hi (nilF e h1 i)
  refine ⟨⟨fun e he => ?_, fun e he i hi => ?_, fun e he hw i hi => ?_, nodupB_ok nd2, fun e he e2 he2 hne hw i hi hi2 => ?_⟩, old⟩
  · rcases RvBL_mem r e he with ⟨j', e', h1, h2, h3, h4, h5, h6⟩ | ⟨h1, h2⟩
    · exact (RvEnt h1 h3 h5 (s.ent e' h2)).1
    · unfold Ent reσ
      rw [h1]; exact h2
  · obtain ⟨e', h1, _, _, h4⟩ := old e he i hi; exact s.low e' h1 i h4
  · obtain ⟨e', h1, _, h3, h4⟩ := old e he i hi; exact s.wr e' h1 (h3 hw) i h4
  · obtain ⟨e', h1, ⟨j1, h2, h2'⟩, h3, h4⟩ := old e he i hi
    obtain ⟨e2', g1, ⟨j2, g2, g2'⟩, g3, g4⟩ := old e2 he2 i hi2
    refine s.dis e' h1 e2' g1 (fun ej => hne ?_) (hw.imp h3 g3) i h4 g4
    have : j1 = j2 := by rw [← h2', ← g2']; exact ej
    subst this
    rw [fromJ_inj (nodupB_ok nd) e he e2 he2 j1 h2 g2]

theorem RvArgs_ok {tl : List (Option Nat)} {σ : Sg} : ∀ {x s s' : List AV}, RvArgs tl x s → LR (RAV σ) s s' → LR (RAV (reσ tl σ)) x s'
  | [], s, s', h, r => by
    have h : s = [] := h
    subst h
    cases s' with
    | nil => trivial
    | cons => exact r.elim
  | x :: xs, [], s', h, r => h.elim
  | x :: xs, s :: ss, s', h, r => by
    cases s' with
    | nil => exact r.elim
    | cons y ys => exact ⟨RvAV_ok h.1 r.1, RvArgs_ok h.2 r.2⟩

/-! ### Forward -/
section
variable {ρ : Type} {r : ρ} {fj : Nat → Option Nat} {σ τ : Sg}
theorem fwdSc_ok (hf : ∀ j j', fj j = some j' → τ j' = σ j) {s : Sc} {k : Sc → Option ρ} (h : fwdScK fj s k = some r) : ∃ s', k s' = some r ∧ ∀ x, RSc σ s x → RSc τ s' x := by
  unfold fwdScK at h
  split at h
  · rename_i j o
    split at h
    · rename_i j' e
      refine ⟨_, h, fun x ⟨a', h1, b, hb, h2⟩ => ⟨a', h1, b, (hf j j' e).trans hb, h2⟩⟩
    · cases h
  · rename_i j o n f z
    split at h
    · rename_i j' e
      refine ⟨_, h, fun x hx => ?_⟩
      rcases hx with ⟨b, hb, h1⟩ | ⟨hb, h1⟩
      · exact .inl ⟨b, (hf j j' e).trans hb, h1⟩
      · exact .inr ⟨(hf j j' e).trans hb, h1⟩
    · cases h
  · rename_i g caps
    split at h
    · refine ⟨_, h, fun x ⟨cs, h1, h2⟩ => ⟨cs, h1, ?_⟩⟩
      cases cs with
      | nil => trivial
      | cons => exact h2.elim
    · cases h
  · rename_i n1 n2 n3
    refine ⟨_, h, fun x hx => ?_⟩
    cases s with
    | ptr a => cases a with
      | none => exact hx
      | some a => exact absurd rfl (n1 a.1 a.2)
    | sl a n f z => cases a with
      | none => exact hx
      | some a => exact absurd rfl (n2 a.1 a.2 n f z)
    | fn g caps => exact absurd rfl (n3 g caps)
    | _ => exact hx
theorem fwdL_ok (hf : ∀ j j', fj j = some j' → τ j' = σ j) : ∀ {l : List Sc} {k : List Sc → Option ρ}, fwdLK fj l k = some r → ∃ l', k l' = some r ∧ ∀ x, LR (RSc σ) l x → LR (RSc τ) l' x
  | [], k, h => ⟨[], h, fun x hx => by cases x with | nil => trivial | cons => exact hx.elim⟩
  | s :: l, k, h => by
    unfold fwdLK at h
    obtain ⟨s', h1, h2⟩ := fwdSc_ok hf h
    obtain ⟨l', h3, h4⟩ := fwdL_ok hf h1
    exact ⟨s' :: l', h3, fun x hx => by
      cases x with
      | nil => exact hx.elim
      | cons y ys => exact ⟨h2 y hx.1, h4 ys hx.2⟩⟩
theorem fwdT_ok (hf : ∀ j j', fj j = some j' → τ j' = σ j) : ∀ {l : List (Bool × List Sc)} {k : List (Bool × List Sc) → Option ρ}, fwdTK fj l k = some r → ∃ l', k l' = some r ∧ ∀ x, LR (REl σ) l x → LR (REl τ) l' x
  | [], k, h => ⟨[], h, fun x hx => by cases x with | nil => trivial | cons => exact hx.elim⟩
  | (b, s) :: l, k, h => by
    unfold fwdTK at h
    obtain ⟨s', h1, h2⟩ := fwdL_ok hf h
    obtain ⟨l', h3, h4⟩ := fwdT_ok hf h1
    exact ⟨(b, s') :: l', h3, fun x hx => by
      cases x with
      | nil => exact hx.elim
      | cons y ys => exact ⟨⟨hx.1.1, h2 y.2 hx.1.2⟩, h4 ys hx.2⟩⟩
theorem fwdAV_ok (hf : ∀ j j', fj j = some j' → τ j' = σ j) {v : AV} {k : AV → Option ρ} (h : fwdAVK fj v k = some r) : ∃ v', k v' = some r ∧ ∀ x, RAV σ v x → RAV τ v' x := by
  cases v with
  | one s =>
    obtain ⟨s', h1, h2⟩ := fwdSc_ok hf (show fwdScK fj s (fun s' => k (.one s')) = some r from h)
    exact ⟨_, h1, fun x ⟨y, e, hy⟩ => ⟨y, e, h2 y hy⟩⟩
  | agg l =>
    obtain ⟨s', h1, h2⟩ := fwdL_ok hf (show fwdLK fj l (fun s' => k (.agg s')) = some r from h)
    exact ⟨_, h1, fun x ⟨y, e, hy⟩ => ⟨y, e, h2 y hy⟩⟩
  | tup l =>
    obtain ⟨s', h1, h2⟩ := fwdT_ok hf (show fwdTK fj l (fun s' => k (.tup s')) = some r from h)
    exact ⟨_, h1, fun x ⟨y, e, hy⟩ => ⟨y, e, h2 y hy⟩⟩
  | top => exact ⟨_, h, fun _ _ => trivial⟩
/-- An entry at the caller. -/
def FwdE (fj : Nat → Option Nat) (σ τ : Sg) (h : H) (e e' : Bk) : Prop := fj e.j = some e'.j ∧ e'.w = e.w ∧ e'.born = e.born ∧ (Ent σ h e → Ent τ h e') ∧ ∀ i, Foot τ h e' i ↔ Foot σ h e i
theorem fwdB_ok (hf : ∀ j j', fj j = some j' → τ j' = σ j) (hh : H) : ∀ {l : BL} {k : BL → Option ρ}, fwdBK fj l k = some r → ∃ l', k l' = some r ∧ LR (FwdE fj σ τ hh) l l'
  | [], k, h => ⟨[], h, trivial⟩
  | ⟨j, w, born, c⟩ :: l, k, h => by
    unfold fwdBK at h
    split at h
    · rename_i j' e
      have hj := hf j j' e
      split at h
      · rename_i cs
        obtain ⟨cs', h1, h2⟩ := fwdL_ok hf h
        obtain ⟨l', h3, h4⟩ := fwdB_ok hf hh h1
        refine ⟨_, h3, ⟨e, rfl, rfl, fun x => ?_, fun i => ?_⟩, h4⟩
        · unfold Ent at x ⊢
          rw [show (⟨j', w, born, .ex cs'⟩ : Bk).j = j' from rfl, hj]
          rw [show (⟨j, w, born, .ex cs⟩ : Bk).j = j from rfl] at x
          cases hs : σ j with
          | none => rw [hs] at x; exact x.elim
          | some q => rw [hs] at x; cases q with
            | none => cases x
            | some b => obtain ⟨l', g1, g2⟩ := x; exact ⟨l', g1, h2 _ g2⟩
        · unfold Foot
          rw [show (⟨j', w, born, .ex cs'⟩ : Bk).j = j' from rfl, hj]
      · rename_i cs
        obtain ⟨l', h3, h4⟩ := fwdB_ok hf hh h
        refine ⟨_, h3, ⟨e, rfl, rfl, fun x => ?_, fun i => ?_⟩, h4⟩
        · unfold Ent at x ⊢
          rw [show (⟨j', w, born, .raw cs⟩ : Bk).j = j' from rfl, hj]; exact x
        · unfold Foot
          rw [show (⟨j', w, born, .raw cs⟩ : Bk).j = j' from rfl, hj]
      · rename_i s
        obtain ⟨l', h3, h4⟩ := fwdB_ok hf hh h
        refine ⟨_, h3, ⟨e, rfl, rfl, fun x => ?_, fun i => ?_⟩, h4⟩
        · unfold Ent at x ⊢
          rw [show (⟨j', w, born, .res s⟩ : Bk).j = j' from rfl, hj]; exact x
        · unfold Foot
          rw [show (⟨j', w, born, .res s⟩ : Bk).j = j' from rfl, hj]
    · cases h
theorem wFrom_ok {tl : List (Option Nat)} : ∀ {l : BL} {k : List Nat → Option ρ}, wFrom tl l k = some r → ∃ js, k js = some r ∧ ∀ e ∈ l, e.w = true → ∀ j', nth tl e.j = some (some j') → j' ∈ js
  | [], k, h => ⟨[], h, fun _ h => by cases h⟩
  | ⟨j, w, b, c⟩ :: l, k, h => by
    unfold wFrom at h
    obtain ⟨js, h1, h2⟩ := wFrom_ok h
    cases w with
    | false =>
      refine ⟨js, h1, fun e he hw j' hj => ?_⟩
      rcases List.mem_cons.1 he with e1 | e1
      · subst e1; cases hw
      · exact h2 e e1 hw j' hj
    | true =>
      dsimp only at h1
      split at h1
      · rename_i j0 ej
        refine ⟨j0 :: js, h1, fun e he hw j' hj => ?_⟩
        rcases List.mem_cons.1 he with e1 | e1
        · subst e1
          rw [show (⟨j, true, b, c⟩ : Bk).j = j from rfl, ej] at hj
          injection hj with hj; injection hj with hj
          exact hj ▸ List.mem_cons_self
        · exact List.mem_cons_of_mem _ (h2 e e1 hw j' hj)
      · rename_i ej
        refine ⟨js, h1, fun e he hw j' hj => ?_⟩
        rcases List.mem_cons.1 he with e1 | e1
        · subst e1
          rw [show (⟨j, true, b, c⟩ : Bk).j = j from rfl, ej] at hj
          cases hj
        · exact h2 e e1 hw j' hj
      · cases h1
end

theorem idTl_ok {k : Nat} {tl : List (Option Nat)} (h : idTl k tl = true) (σ : Sg) : ∀ j, j < k → reσ tl σ j = σ j := by
  have all : ∀ (l : List Nat), allB (fun j => match nth tl j with | some (some j') => Nat.beq j' j | _ => false) l = true → ∀ j ∈ l, reσ tl σ j = σ j := by
    intro l
    induction l with
    | nil => intro _ j hj; cases hj
    | cons a l ih =>
      intro hl j hj
      simp only [allB, Bool.and_eq_true] at hl
      rcases List.mem_cons.1 hj with e | e
      · subst e
        have := hl.1
        unfold reσ
        split at this
        · rename_i j' ej
          rw [ej]
          rw [Nat.eq_of_beq_eq_true this]
        · cases this
      · exact ih hl.2 j e
  exact fun j hj => all _ h j (List.mem_range.2 hj)
theorem ReB.ok {k : Nat} {tl : List (Option Nat)} {p p2 : P} {bl bl2 : BL} {nb nb2 : Nat} {G : Gh} {σ : Sg} {f : FF} {h : H} (r : ReB k tl p bl p2 bl2 nb2) (hG : G.k = k) (s : SI G σ p bl nb f h) : SI G (reσ tl σ) p2 bl2 nb2 f h := by
  have hlen := lenK_ok r.len
  obtain ⟨hok, old⟩ := r.bl.ok r.nd r.nd2 s.ok
  refine ⟨RvP_ok s.ag r.p, hok, fun j hj => ?_, s.nx, s.ro, s.lo, s.keep, fun e he hw i hi => ?_, by rw [hG]; exact Nat.le_of_ble_eq_true r.kn, fun j hj => (idTl_ok r.id σ j (hG ▸ hj)).trans (s.pin j hj)⟩
  · unfold reσ
    rw [nth_eq, List.getElem?_eq_none (by omega)]
  · obtain ⟨e', h1, _, h3, h4⟩ := old e he i hi; exact s.own e' h1 (h3 hw) i h4

/-- With less known. -/
theorem Run.weaken {X : Env} {nt k : Nat} {c : Code} {S : List Kt} {p p2 : P} {bl bl2 : BL} {nb nb2 : Nat} {dc dc2 : DC} {sp sp2 : Tk} {ss ss2 : Ts} {K : KC} (tl : List (Option Nat)) (r : ReB k tl p bl p2 bl2 nb2) (h : Run X nt k (.code c) S ⟨p2, dc2, bl2, nb2, sp2, ss2⟩ K) : Run X nt k (.code c) S ⟨p, dc, bl, nb, sp, ss⟩ K :=
  fun G hG Q hK σ f hh s => h G hG Q hK _ f hh (r.ok hG s)

end Go.AM
end

section
/- What a walk over lists says of the machine: each operation. No program here. -/
set_option linter.unusedSimpArgs false
set_option linter.unusedVariables false
namespace Go.AM
open Go

section
variable {X : Env} {nt k : Nat} {C : Cx} {o : Oper} {rest : List Oper} {i : Nat} {S : List Kt} {p : P} {dc : DC} {bl : BL} {nb : Nat} {sp : Tk} {ss : Ts} {K : KC}

theorem Run.opPure {v : AV} (hW : isW X o.op = false) (hc : isCall o.op = false) (hN : isN o.op = false) (hL : isL o.op = false)
    (ha : ∀ σ ev', (∀ x, RAV σ (P.ev p x) (ev' x)) → ∃ v', RAV σ v v' ∧ ∀ h id, aop X ev' h id o.op = some (v', h))
    (hr : Run X nt k (.put C o.dst v rest i) S ⟨p, dc, bl, nb, sp, ss⟩ K) : Run X nt k (.op C o rest i) S ⟨p, dc, bl, nb, sp, ss⟩ K := by
  intro G hG Q hK c σ f h s g dcr hlen hw
  obtain ⟨v', rv, hv⟩ := ha σ f.ev s.ag.ev
  obtain ⟨f1, hp, hs⟩ := hr G hG Q hK c σ f h v' s rv g.next dcr hlen
  exact SeqD.pure hw hW hc hN hL (fun h => hv h _) hp hs

theorem Run.opNew {v : AV} {cl : Cl} {ss' : Ts} (hW : isW X o.op = false) (hc : isCall o.op = false) (hN : isN o.op = true) (mk : Nat → AV)
    (ha : ∀ σ ev', (∀ x, RAV σ (P.ev p x) (ev' x)) → ∃ l', ((∃ l, cl = .ex l ∧ LR (RSc σ) l l') ∨ cl = .raw l') ∧ ∀ h id, aop X ev' h id o.op = some (mk id, h.put id l'))
    (hv : ∀ (τ : Sg) b, τ nb = some (some b) → RAV τ v (mk b)) (hss : C.dr = true → ss' = ss.map (modsT [nb]))
    (hr : Run X nt k (.put C o.dst v rest i) S ⟨p, dc, ⟨nb, true, some i, cl⟩ :: bl, nb + 1, sp, ss'⟩ K) : Run X nt k (.op C o rest i) S ⟨p, dc, bl, nb, sp, ss⟩ K := by
  intro G hG Q hK c σ f h s g dcr hlen hw
  have s : SI G σ p bl nb f h := s
  have g : RG C.dr c C.ops.length i σ bl G.h h := g
  obtain ⟨l', hl, hop⟩ := ha σ f.ev s.ag.ev
  have hi : i < C.ops.length := by omega
  obtain ⟨s2, g2, hle, hk⟩ := s.new g hi hl
  obtain ⟨f1, hp, hs⟩ := hr G hG Q hK c _ f _ (mk (c + i)) s2 (hv _ _ (Sg.upd_at ..)) g2 dcr hlen
  have hlt : ∀ e ∈ bl, e.j < nb := fun e he => (s.ok.ent e he).ne_top s.top
  have kp : Kept [nb] σ (σ.upd nb (some (c + i))) bl (⟨nb, true, some i, cl⟩ :: bl) h (h.put (c + i) l') := ⟨fun e he _ => List.mem_cons_of_mem _ he, fun e he hm => by
    rcases List.mem_cons.1 he with e1 | e1
    · subst e1; simp [memN] at hm
    · exact e1, fun e he _ x => hk e he x⟩
  refine SeqD.new hw hW hc hN (fun h => hop h _) hp (fun hd SP SS h1 h2 => ⟨tk_new hlt kp h1, ?_⟩) hs
  rw [show (⟨p, dc, ⟨nb, true, some i, cl⟩ :: bl, nb + 1, sp, ss'⟩ : St).ss = ss' from rfl, hss hd]
  exact kp.ts h2

theorem same_before {C : Cx} {i : Nat} {born : Option Nat} {j : Nat} {ss : Ts} (hd : C.dr = true) (hl : ldOK C i born j ss = true) {σ : Sg} {bl : BL} {h : H} {SS : List Sn} (r : LR (TsR σ bl h) ss SS) {e : Bk} (he : e ∈ bl) (hj : e.j = j) {b off : Nat} {l : List Sc} (hf : Foot σ h e b) {n : Nat} (hld : h.load b off n = some l) : sameBefore (C.bs.getD i 0) b off l SS = true := by
  unfold ldOK at hl
  rw [hd, cond_true, Bool.and_eq_true] at hl
  replace hl := hl.2
  unfold sameBefore
  induction ss generalizing SS with
  | nil => cases SS with
    | nil => rfl
    | cons => exact r.elim
  | cons t ss ih => cases SS with
    | nil => exact r.elim
    | cons sn SS =>
      simp only [allB, Bool.and_eq_true] at hl ⊢
      refine ⟨?_, ih r.2 hl.2⟩
      obtain ⟨h1, h2⟩ := r.1
      rw [h1]
      have := hl.1
      rw [Bool.or_eq_true] at this ⊢
      rcases this with h3 | h3
      · exact .inl h3
      · rw [Bool.not_eq_true'] at h3
        refine .inr ?_
        rw [decide_eq_true_iff, load_len hld]
        exact load_get2 (h2 e he (by rw [hj]; exact h3) b hf) hld
theorem born_ok {C : Cx} {i : Nat} {born : Option Nat} {j : Nat} {ss : Ts} (hd : C.dr = true) (hl : ldOK C i born j ss = true) {c len : Nat} {σ : Sg} {bl : BL} {h0 h : H} (g : RG C.dr c len i σ bl h0 h) {e : Bk} (he : e ∈ bl) (hj : e.j = j) (hb : e.born = born) {b : Nat} (hσ : σ j = some (some b)) (hf : Foot σ h e b) : b < c ∨ c + len ≤ b ∨ (C.bs.getD i 0).testBit (b - c) = true := by
  unfold ldOK at hl
  rw [hd, cond_true, Bool.and_eq_true] at hl
  have := g.born hd e he
  rw [hb] at this
  cases born with
  | none => rcases this b hf with h1 | h1
            · exact .inl h1
            · exact .inr (.inl h1)
  | some k =>
    have := this b (by rw [hj]; exact hσ)
    subst this
    refine .inr (.inr ?_)
    rw [Nat.add_sub_cancel_left]
    exact hl.1

theorem Run.opLoad {t : TypeId} {a : Operand} {j off : Nat} {v : AV} {e : Bk} (ho : o.op = .load t a) (hpa : P.ev p a = .one (.ptr (some (j, off)))) (hty : (X.T t).ty.isNone = false) (he : e ∈ bl) (hj : e.j = j) (hld : ldOK C i e.born j ss = true)
    (hsem : ∀ (σ : Sg) h b, σ j = some (some b) → Ent σ h e → Foot σ h e b ∧ ∃ l' v', h.load b off (X.T t).size = some l' ∧ mkAV (X.T t).isAgg l' = some v' ∧ RAV σ v v')
    (hr : Run X nt k (.put C o.dst v rest i) S ⟨p, dc, bl, nb, (bif C.dr then (i, (j, off, (X.T t).size), false) :: sp else sp), ss⟩ K) : Run X nt k (.op C o rest i) S ⟨p, dc, bl, nb, sp, ss⟩ K := by
  intro G hG Q hK c σ f h s g dcr hlen hw
  have s : SI G σ p bl nb f h := s
  have g : RG C.dr c C.ops.length i σ bl G.h h := g
  have hx := s.ag.ev a
  rw [hpa] at hx
  obtain ⟨s', hev, a', rfl, b, hb, rfl⟩ := hx
  obtain ⟨hf, l', v', h1, h2, h3⟩ := hsem σ h b hb (s.ok.ent e he)
  obtain ⟨f1, hp, hs⟩ := hr G hG Q hK c σ f h v' s h3 g.next dcr hlen
  refine SeqD.load hw ho hev hty h1 h2 hp (fun hd => born_ok hd hld g he hj rfl hb hf) (fun hd SS h4 => same_before hd hld h4 he hj hf h1) (fun hd SP SS h4 h5 => ⟨?_, h5⟩) hs
  rw [show (⟨p, dc, bl, nb, (bif C.dr then (i, (j, off, (X.T t).size), false) :: sp else sp), ss⟩ : St).sp = (bif C.dr then (i, (j, off, (X.T t).size), false) :: sp else sp) from rfl, hd, cond_true]
  exact ⟨⟨⟨rfl, rfl, load_len h1⟩, fun _ => ⟨e, he, hj, hf, by show h.load b off l'.length = some l'; rw [load_len h1]; exact h1⟩⟩, h4⟩

theorem Run.opRow {t : TypeId} {a : Operand} {j off m sz : Nat} {full : Bool} {cs : List Sc} {r : Res} {st' : St} {w : Bool} (ho : o.op = .load t a) (hpa : P.ev p a = .one (.ptr (some (j, off)))) (hty : (X.T t).ty.isNone = false) (hsz : (X.T t).size = 1) (hag : (X.T t).isAgg = false)
    (he : (⟨j, w, none, .res r⟩ : Bk) ∈ bl) (hw0 : w = false) (hld : ldOK C i none j ss = true) (hrow : LoadRow r off m full sz cs) (hst : rowSt C cs ⟨p, dc, bl, nb, (bif C.dr then (i, (j, off, (X.T t).size), false) :: sp else sp), ss⟩ = some st')
    (hr : Run X nt k (.put C o.dst (.one (.sl (some (nb, 0)) m full sz)) rest i) S st' K) : Run X nt k (.op C o rest i) S ⟨p, dc, bl, nb, sp, ss⟩ K := by
  subst hw0
  intro G hG Q hK c σ f h s g dcr hlen hw
  have s : SI G σ p bl nb f h := s
  have g : RG C.dr c C.ops.length i σ bl G.h h := g
  obtain ⟨ss', hst', hss⟩ := newK_ok (show newK C nb ss (fun ss' => some (⟨p, dc, ⟨nb, false, none, .raw cs⟩ :: bl, nb + 1, (bif C.dr then (i, (j, off, (X.T t).size), false) :: sp else sp), ss'⟩ : St)) = some st' from hst)
  injection hst' with hst'
  subst hst'
  have hx := s.ag.ev a
  rw [hpa] at hx
  obtain ⟨s', hev, a', rfl, b, hb, rfl⟩ := hx
  have hent := s.ok.ent _ he
  have hR : r.R b h := by unfold Ent at hent; rw [show (⟨j, false, none, .res r⟩ : Bk).j = j from rfl, hb] at hent; exact hent
  have hfo : ∀ x, Foot σ h ⟨j, false, none, .res r⟩ x ↔ r.F b h x := fun x => by unfold Foot; rw [show (⟨j, false, none, .res r⟩ : Bk).j = j from rfl, hb]
  obtain ⟨hfb, hrow⟩ := hrow b h hR
  have hlt : ∀ e ∈ bl, e.j < nb := fun e he => (s.ok.ent e he).ne_top s.top
  have main : ∀ (ro : Option Nat) (l' : List Sc) (v' : AV), h.load b off 1 = some l' → mkAV false l' = some v' → RAV (σ.upd nb ro) (.one (.sl (some (nb, 0)) m full sz)) v' →
      Ent (σ.upd nb ro) h ⟨nb, false, none, .raw cs⟩ → (∀ x, Foot (σ.upd nb ro) h ⟨nb, false, none, .raw cs⟩ x → r.F b h x) → SeqD X nt C c i (o :: rest) f h σ bl sp ss (stackQ X nt S Q .norm) := by
    intro ro l' v' h1 h2 h3 h4 h5
    have hle : σ.le (σ.upd nb ro) := Sg.upd_le (s.top nb (Nat.le_refl _)) _
    have hff : ∀ e ∈ bl, ∀ x, Foot (σ.upd nb ro) h e x ↔ Foot σ h e x := fun e he x => Foot.mono hle (s.ok.ent e he) x
    obtain ⟨hok, _⟩ := s.ok.frame hle (fun _ _ _ _ => rfl) (Nat.le_refl _) rfl
    have s2 : SI G (σ.upd nb ro) p (⟨nb, false, none, .raw cs⟩ :: bl) (nb + 1) f h := by
      refine ⟨s.ag.mono hle, hok.cons h4 (fun x hx => s.ok.low _ he x ((hfo x).2 (h5 x hx))) (fun hx => by cases hx) (fun e' he' => Nat.ne_of_lt (hlt e' he')) (fun e' he' hw' x hx hx' => ?_), Sg.upd_top s.top _, s.nx, s.ro, s.lo, s.keep, fun e he' hwe x hx => ?_, Nat.le_succ_of_le s.kn, fun j hj => (Sg.upd_ne (Nat.ne_of_lt (Nat.lt_of_lt_of_le hj s.kn)) _).trans (s.pin j hj)⟩
      · have hw' : e'.w = true := hw'.resolve_left (by simp)
        refine s.ok.dis _ he e' he' (fun ej => ?_) (.inr hw') x ((hfo x).2 (h5 x hx)) ((hff e' he' x).1 hx')
        have := s.ok.same he he' ej
        rw [← this] at hw'; cases hw'
      · rcases List.mem_cons.1 he' with e1 | e1
        · rw [e1] at hwe; cases hwe
        · exact s.own e e1 hwe x ((hff e e1 x).1 hx)
    have g2 : RG C.dr c C.ops.length (i + 1) (σ.upd nb ro) (⟨nb, false, none, .raw cs⟩ :: bl) G.h h := by
      refine ⟨g.lo, g.hi, fun e he' x hx k hk hkl => ?_, fun hd e he' => ?_⟩
      · rcases List.mem_cons.1 he' with e1 | e1
        · rw [e1] at hx; exact g.fresh _ he x ((hfo x).2 (h5 x hx)) k (by omega) hkl
        · exact g.fresh e e1 x ((hff e e1 x).1 hx) k (by omega) hkl
      · rcases List.mem_cons.1 he' with e1 | e1
        · subst e1; intro x hx; exact g.born hd _ he x ((hfo x).2 (h5 x hx))
        · have := g.born hd e e1
          cases hb' : e.born with
          | none => rw [hb'] at this; intro x hx; exact this x ((hff e e1 x).1 hx)
          | some k =>
            rw [hb'] at this
            intro b' hb''
            refine this b' ?_
            unfold Sg.upd at hb''
            rw [if_neg (Nat.ne_of_lt (hlt e e1))] at hb''
            exact hb''
    obtain ⟨f1, hp, hs⟩ := hr G hG Q hK c _ f h v' s2 h3 g2 dcr hlen
    have kp : Kept [nb] σ (σ.upd nb ro) bl (⟨nb, false, none, .raw cs⟩ :: bl) h h := ⟨fun e he _ => List.mem_cons_of_mem _ he, fun e he hm => by
      rcases List.mem_cons.1 he with e1 | e1
      · subst e1; simp [memN] at hm
      · exact e1, fun e he _ x => ⟨hff e he x, fun _ => rfl⟩⟩
    refine SeqD.load (l := l') hw ho hev hty (by rw [hsz]; exact h1) (by rw [hag]; exact h2) hp (fun hd => born_ok hd hld g he rfl rfl hb ((hfo b).2 hfb)) (fun hd SS h4 => same_before hd hld h4 he rfl ((hfo b).2 hfb) h1) (fun hd SP SS h6 h7 => ⟨?_, ?_⟩) hs
    · show LR _ (bif C.dr then (i, (j, off, (X.T t).size), false) :: sp else sp) _
      rw [hd, cond_true]
      refine ⟨⟨⟨rfl, rfl, (load_len h1).trans hsz.symm⟩, fun _ => ⟨_, List.mem_cons_of_mem _ he, rfl, (hff _ he b).2 ((hfo b).2 hfb), by show h.load b off l'.length = some l'; rw [load_len h1]; exact h1⟩⟩, tk_new hlt kp h6⟩
    · show LR _ ss' SS
      rw [hss hd]
      exact kp.ts h7
  rcases hrow with ⟨bi, h1, h2, h3⟩ | ⟨h1, h2, h3⟩
  · refine main (some bi) _ _ h1 rfl ⟨_, rfl, .inl ⟨bi, Sg.upd_at .., rfl⟩⟩ ?_ fun x hx => ?_
    · unfold Ent; rw [show (⟨nb, false, none, .raw cs⟩ : Bk).j = nb from rfl, Sg.upd_at]; exact h2
    · unfold Foot at hx; rw [show (⟨nb, false, none, .raw cs⟩ : Bk).j = nb from rfl, Sg.upd_at] at hx
      have hx : x = bi := hx
      rw [hx]; exact h3
  · refine main none _ _ h3 rfl ⟨_, rfl, .inr ⟨Sg.upd_at .., h1, rfl⟩⟩ ?_ fun x hx => ?_
    · unfold Ent; rw [show (⟨nb, false, none, .raw cs⟩ : Bk).j = nb from rfl, Sg.upd_at]; rw [h2]
    · unfold Foot at hx; rw [show (⟨nb, false, none, .raw cs⟩ : Bk).j = nb from rfl, Sg.upd_at] at hx; exact hx.elim

theorem Run.opStore {t : TypeId} {a x : Operand} {j off : Nat} {xs : List Sc} {bl1 bl2 : BL} {born : Option Nat} {c0 cl : Cl} {sp' : Tk} {ss' : Ts} (ho : o.op = .store t a x) (hpa : P.ev p a = .one (.ptr (some (j, off)))) (hty : (X.T t).ty.isNone = false) (hxs : (P.ev p x).cells = some xs) (hlen' : xs.length = (X.T t).size)
    (hbl : bl = bl1 ++ ⟨j, true, born, c0⟩ :: bl2) (hc : (∃ l l2, c0 = .ex l ∧ cl = .ex l2 ∧ off + xs.length ≤ l.length ∧ l2 = l.take off ++ xs ++ l.drop (off + xs.length)) ∨ (∃ l l2, c0 = .raw l ∧ cl = .raw l2 ∧ allB flatSc xs = true ∧ off + xs.length ≤ l.length ∧ l2 = l.take off ++ xs ++ l.drop (off + xs.length)))
    (hwr : wrOK C i [j] sp = true) (htr : C.dr = true → sp' = sp.map (staleT [j]) ∧ ss' = (i, [j]) :: ss.map (modsT [j]))
    (hr : Run X nt k (.put C o.dst undefA rest i) S ⟨p, dc, bl1 ++ ⟨j, true, born, cl⟩ :: bl2, nb, sp', ss'⟩ K) : Run X nt k (.op C o rest i) S ⟨p, dc, bl, nb, sp, ss⟩ K := by
  subst hbl
  intro G hG Q hK c σ f h s g dcr hlen hw
  have s : SI G σ p (bl1 ++ ⟨j, true, born, c0⟩ :: bl2) nb f h := s
  have g : RG C.dr c C.ops.length i σ (bl1 ++ ⟨j, true, born, c0⟩ :: bl2) G.h h := g
  have hx := s.ag.ev a
  rw [hpa] at hx
  obtain ⟨s', hev, a', rfl, b, hb, rfl⟩ := hx
  obtain ⟨ys, hys, ry⟩ := cells_rel2 hxs (s.ag.ev x)
  have hin : (⟨j, true, born, c0⟩ : Bk) ∈ bl1 ++ ⟨j, true, born, c0⟩ :: bl2 := by simp
  have hent := s.ok.ent _ hin
  have hnr : ∀ r, c0 ≠ .res r := fun r e => by rcases hc with ⟨l, l2, h1, _⟩ | ⟨l, l2, h1, _⟩ <;> rw [h1] at e <;> cases e
  have hfb : Foot σ h ⟨j, true, born, c0⟩ b := by
    unfold Foot
    rw [show (⟨j, true, born, c0⟩ : Bk).j = j from rfl, hb]
    rcases hc with ⟨l, l2, rfl, _⟩ | ⟨l, l2, rfl, _⟩ <;> rfl
  have hro : h.ro ≤ b := s.ok.wr _ hin rfl b hfb
  obtain ⟨l', l2', hget, hle, hcl, hst⟩ : ∃ l' l2', h.get b = some l' ∧ off + ys.length ≤ l'.length ∧ ((∃ l, cl = .ex l ∧ LR (RSc σ) l l2') ∨ cl = .raw l2') ∧ l2' = l'.take off ++ ys ++ l'.drop (off + ys.length) := by
    unfold Ent at hent
    rw [show (⟨j, true, born, c0⟩ : Bk).j = j from rfl, hb] at hent
    rcases hc with ⟨l, l2, rfl, rfl, h1, h2⟩ | ⟨l, l2, rfl, rfl, hf, h1, h2⟩
    · obtain ⟨l', h3, h4⟩ := hent
      refine ⟨l', _, h3, by rw [← ry.length, ← h4.length]; exact h1, .inl ⟨_, rfl, ?_⟩, rfl⟩
      rw [h2, ← ry.length]
      exact ((h4.take off).append ry).append (h4.drop _)
    · have e : ys = xs := LR.flat hf ry
      subst e
      exact ⟨l, l2, hent, h1, .inr rfl, h2⟩
  obtain ⟨s2, g2, k1, k2⟩ := s.upd g hb hnr hcl
  have hkp : Kept [j] σ σ (bl1 ++ ⟨j, true, born, c0⟩ :: bl2) (bl1 ++ ⟨j, true, born, cl⟩ :: bl2) h (h.put b l2') := by
    have ne : ∀ e : Bk, memN e.j [j] = false → e.j ≠ j := fun e he e1 => by rw [e1] at he; simp [memN] at he
    exact ⟨fun e he hm => k2 e he (ne e hm), fun e he hm => (k1 e he (ne e hm)).1, fun e he hm y => (k1 e (k2 e he (ne e hm)) (ne e hm)).2 y⟩
  obtain ⟨f1, hp, hs⟩ := hr G hG Q hK c σ f _ undefA s2 (RAV.of_flat rfl) g2.next dcr hlen
  have hstore : h.store b off ys = some (h.put b l2') := by
    rw [H.store_of hro hget hle, hst]
  refine SeqD.write hw (by rw [ho]; rfl) (by rw [ho]; rfl) ?_ hp (fun hd => wr_mask hd hwr) (fun hd SP h1 => hkp.loads hd hwr h1) (fun hd SP SS h1 h2 => ?_) hs
  · rw [ho]
    simp only [aop, hev, hty, Bool.false_eq_true, if_false, hys, Option.bind_some]
    rw [if_pos (by rw [← ry.length]; exact hlen'), hstore]; rfl
  · obtain ⟨e1, e2⟩ := htr hd
    show LR _ sp' SP ∧ LR _ ss' _
    rw [e1, e2]
    exact ⟨hkp.tk h1, hkp.now i, hkp.ts h2⟩

/-- A call of a function whose answers are known. -/
theorem Run.opE {f0 : Operand} {args : Array Operand} {ts : Array TypeId} {g : FuncId} {caps : List (Nat × Nat)} {as : List AV} {fE : List AV → Option AV} {v : AV} (ho : o.op = .call ⟨.value f0, args, ts⟩) (hpf : P.ev p f0 = .one (.fn g caps)) (has : as = args.toList.map (P.ev p) ++ caps.map fun a => .one (.ptr (some a)))
    (hE : X.E g = some fE) (hfl : allB AV.flat as = true) (hd0 : C.dr = true → noMask (C.bs.getD i 0) 0 C.ops = true ∧ isW X o.op = false) (hv : fE as = some v) (hvf : v.flat = true)
    (hr : Run X nt k (.put C o.dst v rest i) S ⟨p, dc, bl, nb, sp, ss⟩ K) : Run X nt k (.op C o rest i) S ⟨p, dc, bl, nb, sp, ss⟩ K := by
  intro G hG Q hK c σ f h s g' dcr hlen hw
  have s : SI G σ p bl nb f h := s
  have hx := s.ag.ev f0
  rw [hpf] at hx
  obtain ⟨s', hev, cs, rfl, rc⟩ := hx
  have hargs : LR (RAV σ) as (args.toList.map f.ev ++ cs.map fun a => .one (.ptr (some a))) := by
    rw [has]
    refine LR.append ?_ ?_
    · exact LR.self (fun x => s.ag.ev x) _
    · exact LR.map (R := RPt σ) (fun x y h => ⟨_, rfl, y, rfl, h⟩) rc
  have hflat : ∀ {l l' : List AV}, allB AV.flat l = true → LR (RAV σ) l l' → l' = l := by
    intro l
    induction l with
    | nil => intro l' _ r; cases l' with
      | nil => rfl
      | cons => exact r.elim
    | cons a l ih => intro l' hf r; cases l' with
      | nil => exact r.elim
      | cons a' l' =>
        simp only [allB, Bool.and_eq_true] at hf
        rw [RAV.flat hf.1 r.1, ih hf.2 r.2]
  have hcal : callee f.ev o.op = some (g, as) := by
    rw [ho]
    unfold callee
    dsimp only
    rw [hev]
    dsimp only
    rw [hflat hfl hargs]
  have hcall : ∀ h, CallsA X g as h v h := fun h => ⟨0, by
    unfold callA
    rw [hE]
    dsimp only
    rw [hv, Option.bind_some, if_pos hvf]⟩
  obtain ⟨f1, hp, hs⟩ := hr G hG Q hK c σ f h v s (RAV.of_flat hvf) g'.next dcr hlen
  have hcl : isCall o.op = true := by rw [ho]; rfl
  cases hd : C.dr with
  | true =>
    obtain ⟨hm, hW⟩ := hd0 hd
    exact SeqD.callD hd hw hcl hcal hW hm (hcall _) hvf hp hs
  | false =>
    refine SeqD.callW hw hcl hcal (hcall h) hp (fun h => ?_) (fun h => ?_) (fun h => ?_) (fun h => ?_) hs <;> rw [hd] at h <;> cases h

/-- What a call leaves, of all that is known. -/
theorem call_core {G : Gh} {σ : Sg} {f : FF} {h h' : H} {dr : Bool} {c len : Nat} (s : SI G σ p bl nb f h) (g' : RG dr c len i σ bl G.h h) {tl : List (Option Nat)} {nb0 nba : Nat} {bl0 Bl bl1 : BL} {mods : List Nat} {σc : Sg} {ρ : Type} {r0 : ρ} {kk : BL → BL → Option ρ}
    (hold0 : ∀ e ∈ bl0, ∀ i, Foot (reσ tl σ) h e i → ∃ e' ∈ bl, (∃ j', nth tl e.j = some (some j') ∧ e'.j = j') ∧ (e.w = true → e'.w = true) ∧ Foot σ h e' i)
    (hsame0 : ∀ j, j < nb0 → σc j = reσ tl σ j) (htopc : ∀ j, nba ≤ j → σc j = none) (hnx' : h.nx ≤ h'.nx) (hro' : h'.ro = h.ro) (hbB : BlOK σc Bl h') (hkeep : ∀ i, i < h.nx → ¬ WrB (reσ tl σ) bl0 h i → h'.get i = h.get i) (hfB : ∀ e ∈ Bl, ∀ i, Foot σc h' e i → h.nx ≤ i ∨ WrB (reσ tl σ) bl0 h i) (hjB : ∀ e ∈ Bl, e.born = none)
    (hmo : ∀ e ∈ bl0, e.w = true → ∀ j', nth tl e.j = some (some j') → j' ∈ mods) (hold : dr = true → ∀ e ∈ bl, e.j ∈ mods → e.born = none) (hsl : bl1.Sublist bl) (hcomp : ∀ e ∈ bl, e.j ∉ mods → e ∈ bl1) (hdel : ∀ e ∈ bl1, e.j ∉ mods)
    (hst : (fwdBK (fwdJ tl nb0 nb) Bl fun Ba' => appK Ba' bl1 fun bl' => bif nodupB (bl'.map Bk.j) then kk Ba' bl' else none) = some r0) :
    ∃ Ba' τ, kk Ba' (Ba' ++ bl1) = some r0 ∧ σ.le τ ∧ (∀ j j', fwdJ tl nb0 nb j = some j' → τ j' = σc j) ∧ SI G τ p (Ba' ++ bl1) (nb + (nba - nb0)) f h' ∧ RG dr c len (i + 1) τ (Ba' ++ bl1) G.h h' ∧ Kept (mods ++ Ba'.map Bk.j) σ τ bl (Ba' ++ bl1) h h' := by
    have hlo := s.lo
    have hnx := s.nx
    have hro := s.ro
    have hgl := g'.lo
    have hgh := g'.hi
    have hlt : ∀ e ∈ bl, e.j < nb := fun e he => (s.ok.ent e he).ne_top s.top
    -- the places behind the call
    let τ : Sg := fun j => if j < nb then σ j else σc (nb0 + (j - nb))
    have hτlt : ∀ j, j < nb → τ j = σ j := fun j hj => if_pos hj
    have hle : σ.le τ := fun j r hj => by
      have : j < nb := Nat.lt_of_not_le fun h => by rw [s.top j h] at hj; cases hj
      rw [hτlt j this]; exact hj
    have htop : ∀ j, nb + (nba - nb0) ≤ j → τ j = none := fun j hj => by
      show (if j < nb then σ j else σc (nb0 + (j - nb))) = none
      rw [if_neg (by omega)]
      exact htopc _ (by omega)
    have hfj : ∀ j j', fwdJ tl nb0 nb j = some j' → τ j' = σc j := fun j j' e => by
      unfold fwdJ at e
      cases hb : Nat.blt j nb0 with
      | true =>
        rw [hb, cond_true] at e
        have hjn : j < nb0 := Nat.le_of_ble_eq_true hb
        split at e
        · rename_i j1 e1
          cases hb1 : Nat.blt j1 nb with
          | false => rw [hb1] at e; cases e
          | true =>
            rw [hb1, cond_true] at e
            injection e with e
            subst e
            rw [hsame0 j hjn]
            unfold reσ
            rw [e1]
            exact hτlt _ (Nat.le_of_ble_eq_true hb1)
        · cases e
      | false =>
        rw [hb, cond_false] at e
        have hjn : ¬ j < nb0 := fun h => by
          have : Nat.blt j nb0 = true := Nat.ble_eq_true_of_le h
          rw [this] at hb; cases hb
        injection e with e
        subst e
        show (if nb + (j - nb0) < nb then σ (nb + (j - nb0)) else σc (nb0 + (nb + (j - nb0) - nb))) = σc j
        rw [if_neg (by omega)]
        congr 1; omega
    obtain ⟨Ba', hst, hBa⟩ := fwdB_ok hfj h' hst
    have hst := appK_ok hst
    have hnodup : nodupB ((Ba' ++ bl1).map Bk.j) = true := by
      cases hb : nodupB ((Ba' ++ bl1).map Bk.j) with
      | true => rfl
      | false => rw [hb] at hst; cases hst
    rw [hnodup, cond_true] at hst
    -- the entries of the call
    have bmem : ∀ e' ∈ Ba', ∃ e ∈ Bl, FwdE (fwdJ tl nb0 nb) σc τ h' e e' := by
      have all : ∀ {l l' : BL}, LR (FwdE (fwdJ tl nb0 nb) σc τ h') l l' → ∀ e' ∈ l', ∃ e ∈ l, FwdE (fwdJ tl nb0 nb) σc τ h' e e' := by
        intro l
        induction l with
        | nil => intro l' r e' he'; cases l' with
          | nil => cases he'
          | cons => exact r.elim
        | cons b l ih => intro l' r e' he'; cases l' with
          | nil => cases he'
          | cons b' l' =>
            rcases List.mem_cons.1 he' with e1 | e1
            · exact ⟨b, List.mem_cons_self, e1 ▸ r.1⟩
            · obtain ⟨e, h1, h2⟩ := ih r.2 e' e1; exact ⟨e, List.mem_cons_of_mem _ h1, h2⟩
      exact all hBa
    have hWfoot : ∀ x, WrB (reσ tl σ) bl0 h x → ∃ e ∈ bl, e.w = true ∧ Foot σ h e x ∧ e.j ∈ mods := fun x ⟨e, he, hw, hf⟩ => by
      obtain ⟨e', h1, ⟨j', h2, h3⟩, h4, h5⟩ := hold0 e he x hf
      exact ⟨e', h1, h4 hw, h5, by rw [h3]; exact hmo e he hw j' h2⟩
    have notW : ∀ e ∈ bl1, ∀ x, Foot σ h e x → ¬ WrB (reσ tl σ) bl0 h x := fun e he x hx hW => by
      obtain ⟨e', h1, h2, h3, h4⟩ := hWfoot x hW
      exact s.ok.dis e (hsl.subset he) e' h1 (fun ej => hdel e he (by rw [ej]; exact h4)) (.inr h2) x hx h3
    have hsame : ∀ e ∈ bl1, ∀ x, Foot σ h e x → h'.get x = h.get x := fun e he x hx => hkeep x (s.ok.low e (hsl.subset he) x hx) (notW e he x hx)
    obtain ⟨hok1, hff⟩ := (s.ok.sub hsl).frame hle hsame hnx' hro'
    have hfB' : ∀ e' ∈ Ba', ∀ x, Foot τ h' e' x → h.nx ≤ x ∨ WrB (reσ tl σ) bl0 h x := fun e' he' x hx => by
      obtain ⟨e, h1, _, _, _, _, h2⟩ := bmem e' he'
      exact hfB e h1 x ((h2 x).1 hx)
    have hdisj : ∀ e ∈ Ba', ∀ e' ∈ bl1, ∀ x, Foot τ h' e x → ¬ Foot τ h' e' x := fun e he e' he' x hx hx' => by
      rw [hff e' he'] at hx'
      rcases hfB' e he x hx with h1 | h1
      · have := s.ok.low e' (hsl.subset he') x hx'; omega
      · exact notW e' he' x hx' h1
    have fwdne : ∀ e1 e2 e1' e2', FwdE (fwdJ tl nb0 nb) σc τ h' e1 e1' → FwdE (fwdJ tl nb0 nb) σc τ h' e2 e2' → e1'.j ≠ e2'.j → e1.j ≠ e2.j := fun e1 e2 e1' e2' a1 a2 hne ej => by
      refine hne ?_
      have b1 := a1.1
      have b2 := a2.1
      rw [ej, b2] at b1
      injection b1 with b1
      exact b1.symm
    have s2 : SI G τ p (Ba' ++ bl1) (nb + (nba - nb0)) f h' := by
      refine ⟨s.ag.mono hle, ⟨fun e he => ?_, fun e he x hx => ?_, fun e he hw x hx => ?_, nodupB_ok hnodup, fun e he e' he' hne hw x hx hx' => ?_⟩, htop, by omega, by rw [hro', s.ro], s.lo, fun x hx hmd => ?_, fun e he hw x hx => ?_, Nat.le_trans s.kn (Nat.le_add_right _ _), fun j hj => (hτlt j (Nat.lt_of_lt_of_le hj s.kn)).trans (s.pin j hj)⟩
      · rcases List.mem_append.1 he with h1 | h1
        · obtain ⟨e0, h2, _, _, _, h3, _⟩ := bmem e h1; exact h3 (hbB.ent e0 h2)
        · exact hok1.ent e h1
      · rcases List.mem_append.1 he with h1 | h1
        · obtain ⟨e0, h2, _, _, _, _, h3⟩ := bmem e h1; exact hbB.low e0 h2 x ((h3 x).1 hx)
        · exact hok1.low e h1 x hx
      · rcases List.mem_append.1 he with h1 | h1
        · obtain ⟨e0, h2, _, h4, _, _, h3⟩ := bmem e h1; exact hbB.wr e0 h2 (by rw [← h4]; exact hw) x ((h3 x).1 hx)
        · exact hok1.wr e h1 hw x hx
      · rcases List.mem_append.1 he with h1 | h1
        · rcases List.mem_append.1 he' with h2 | h2
          · obtain ⟨e0, g1, g2⟩ := bmem e h1
            obtain ⟨e0', g1', g2'⟩ := bmem e' h2
            refine hbB.dis e0 g1 e0' g1' (fwdne _ _ _ _ g2 g2' hne) (hw.imp (fun h => by rw [← g2.2.1]; exact h) (fun h => by rw [← g2'.2.1]; exact h)) x ((g2.2.2.2.2 x).1 hx) ((g2'.2.2.2.2 x).1 hx')
          · exact hdisj e h1 e' h2 x hx hx'
        · rcases List.mem_append.1 he' with h2 | h2
          · exact hdisj e' h2 e h1 x hx' hx
          · exact hok1.dis e h1 e' h2 hne hw x hx hx'
      · rw [← s.keep x hx hmd]
        refine hkeep x (by omega) fun hW => ?_
        obtain ⟨e, h1, h2, h3, _⟩ := hWfoot x hW
        rcases s.own e h1 h2 x h3 with h4 | h4
        · omega
        · exact hmd h4
      · rcases List.mem_append.1 he with h1 | h1
        · rcases hfB' e h1 x hx with h2 | h2
          · exact .inl (by omega)
          · obtain ⟨e', h3, h4, h5, _⟩ := hWfoot x h2
            exact s.own e' h3 h4 x h5
        · exact s.own e (hsl.subset h1) hw x ((hff e h1 x).1 hx)
    have g2 : RG dr c len (i + 1) τ (Ba' ++ bl1) G.h h' := by
      refine ⟨g'.lo, by omega, fun e he x hx k hk hkl => ?_, fun hd e he => ?_⟩
      · rcases List.mem_append.1 he with h1 | h1
        · rcases hfB' e h1 x hx with h2 | h2
          · omega
          · obtain ⟨e', h3, h4, h5, _⟩ := hWfoot x h2
            exact g'.fresh e' h3 x h5 k (by omega) hkl
        · exact g'.fresh e (hsl.subset h1) x ((hff e h1 x).1 hx) k (by omega) hkl
      · rcases List.mem_append.1 he with h1 | h1
        · obtain ⟨e0, k1, _, _, k2, _, _⟩ := bmem e h1
          rw [k2, hjB e0 k1]
          intro x hx
          rcases hfB' e h1 x hx with h2 | h2
          · exact .inr (by omega)
          · obtain ⟨e', h3, h4, h5, h6⟩ := hWfoot x h2
            have := g'.born hd e' h3
            rw [hold hd e' h3 h6] at this
            exact this x h5
        · have := g'.born hd e (hsl.subset h1)
          cases hb : e.born with
          | none => rw [hb] at this; intro x hx; exact this x ((hff e h1 x).1 hx)
          | some k =>
            rw [hb] at this
            intro b hb'
            obtain ⟨r, hr'⟩ := (s.ok.ent e (hsl.subset h1)).has
            have h3 := hle _ _ hr'
            rw [h3] at hb'
            injection hb' with hb'
            subst hb'
            exact this b hr'
    have kp : Kept (mods ++ Ba'.map Bk.j) σ τ bl (Ba' ++ bl1) h h' := by
      have nm : ∀ e : Bk, memN e.j (mods ++ Ba'.map Bk.j) = false → e.j ∉ mods ∧ e.j ∉ Ba'.map Bk.j := fun e he => by
        rw [memN_append, Bool.or_eq_false_iff] at he
        exact ⟨memN_false he.1, memN_false he.2⟩
      refine ⟨fun e he hm => List.mem_append_right _ (hcomp e he (nm e hm).1), fun e he hm => ?_, fun e he hm x => ⟨hff e (hcomp e he (nm e hm).1) x, hsame e (hcomp e he (nm e hm).1) x⟩⟩
      rcases List.mem_append.1 he with h1 | h1
      · exact absurd (List.mem_map_of_mem h1) (nm e hm).2
      · exact hsl.subset h1
    exact ⟨Ba', τ, hst, hle, hfj, s2, g2, kp⟩

/-- A call of a function by what is known of it. -/
theorem Run.opCall {f0 : Operand} {args : Array Operand} {ts : Array TypeId} {g : FuncId} {caps : List (Nat × Nat)} {as : List AV} (ho : o.op = .call ⟨.value f0, args, ts⟩) (hpf : P.ev p f0 = .one (.fn g caps)) (has : as = args.toList.map (P.ev p) ++ caps.map fun a => .one (.ptr (some a)))
    (hr : CallH X nt k K g as ⟨C, o, rest, i, S⟩ ⟨p, dc, bl, nb, sp, ss⟩) : Run X nt k (.op C o rest i) S ⟨p, dc, bl, nb, sp, ss⟩ K := by
  intro G hG Q hK c σ f h s g' dcr hlen hw
  obtain ⟨A, V, B, nb', tl, args0, bl0, nb0, hct, htl, hra, hrb, hnd, hnd2, hr⟩ := hr
  have s : SI G σ p bl nb f h := s
  have g' : RG C.dr c C.ops.length i σ bl G.h h := g'
  have hrb : RvBL tl bl bl0 := hrb
  have hx := s.ag.ev f0
  rw [hpf] at hx
  obtain ⟨s', hev, cs, rfl, rc⟩ := hx
  have hargs : LR (RAV σ) as (args.toList.map f.ev ++ cs.map fun a => .one (.ptr (some a))) := by
    rw [has]
    refine LR.append ?_ ?_
    · exact LR.self (fun x => s.ag.ev x) _
    · exact LR.map (R := RPt σ) (fun x y h => ⟨_, rfl, y, rfl, h⟩) rc
  have hargs := RvArgs_ok hra hargs
  have hcal : callee f.ev o.op = some (g, args.toList.map f.ev ++ cs.map fun a => .one (.ptr (some a))) := by
    rw [ho]
    unfold callee
    dsimp only
    rw [hev]
  have hcl : isCall o.op = true := by rw [ho]; rfl
  obtain ⟨hbc, hold0⟩ := hrb.ok hnd hnd2 s.ok
  have htl := lenK_ok htl
  have htop0 : ∀ j, nb0 ≤ j → reσ tl σ j = none := fun j hj => by
    unfold reσ
    rw [nth_eq, List.getElem?_eq_none (by omega)]
  have hlo := s.lo
  have hnx := s.nx
  have hro := s.ro
  have hgl := g'.lo
  have hgh := g'.hi
  dsimp only at hr
  cases hm : (C.dr && !isW X o.op) with
  | true =>
    rw [hm] at hr
    obtain ⟨hmask, hnw, hr⟩ := hr
    rw [Bool.and_eq_true, Bool.not_eq_true'] at hm
    have hb2 : BlOK (reσ tl σ) bl0 { h with ro := h.nx } := by
      have ff : ∀ e ∈ bl0, Ent (reσ tl σ) { h with ro := h.nx } e ∧ ∀ i, Foot (reσ tl σ) { h with ro := h.nx } e i ↔ Foot (reσ tl σ) h e i := fun e he => (hbc.ent e he).frame fun _ _ => rfl
      exact ⟨fun e he => (ff e he).1, fun e he i hi => hbc.low e he i (((ff e he).2 i).1 hi), (fun e he hw => by rw [hnw e he] at hw; cases hw), hbc.uniq, fun e he e' he' hne hw i hi hi' => hbc.dis e he e' he' hne hw i (((ff e he).2 i).1 hi) (((ff e' he').2 i).1 hi')⟩
    obtain ⟨v', h2, hca, a, σ', _, _, _, _, hv, _⟩ := hct _ _ _ hargs hb2 (Nat.le_refl _) htop0
    obtain ⟨hf, hrun⟩ := hr a
    have e := RAV.flat hf hv
    subst e
    obtain ⟨f1, hp, hs⟩ := hrun G hG Q hK c σ f h _ s (RAV.of_flat hf) g'.next dcr hlen
    exact SeqD.callD hm.1 hw hcl hcal hm.2 hmask hca hf hp hs
  | false =>
    rw [hm] at hr
    obtain ⟨v', h', hca, a, σc, hsame0, htopc, hnx', hro', hv, hbB, hkeep, hfB, hjB⟩ := hct _ _ _ hargs hbc (by omega) htop0
    obtain ⟨v2, st', hst, hrun⟩ := hr a
    unfold callSt at hst
    dsimp only at hst
    obtain ⟨mods, hst, hmo⟩ := wFrom_ok hst
    have hold : C.dr = true → oldAll mods bl = true := fun hd => by
      rw [hd] at hst
      cases ho : oldAll mods bl with
      | true => rfl
      | false => rw [ho] at hst; cases hst
    have hst2 : ∃ bl1, bl1.Sublist bl ∧ (∀ e ∈ bl, e.j ∉ mods → e ∈ bl1) ∧ (∀ e ∈ bl1, e.j ∉ mods) ∧ (fwdBK (fwdJ tl nb0 nb) (B a) fun Ba' => appK Ba' bl1 fun bl' => bif nodupB (bl'.map Bk.j) then
      jsK Ba' fun js => appK mods js fun ms => wroteK C i ms sp ss fun sp' ss' => fwdAVK (fwdJ tl nb0 nb) (V a) fun v' => some (v', (⟨p, dc, bl', nb + (nb' a - nb0), sp', ss'⟩ : St)) else none) = some (v2, st') := by
      cases hb : (C.dr && !oldAll mods bl) with
      | true => rw [hb] at hst; cases hst
      | false =>
        rw [hb, cond_false] at hst
        obtain ⟨bl1, hst, hsl, hcomp, hdel⟩ := delsK_ok hst
        exact ⟨bl1, hsl, hcomp, hdel s.ok.uniq, hst⟩
    obtain ⟨bl1, hsl, hcomp, hdel, hst⟩ := hst2
    have oldOf : ∀ (bl : BL), oldAll mods bl = true → ∀ e ∈ bl, e.j ∈ mods → e.born = none := by
      intro bl
      induction bl with
      | nil => intro _ e he; cases he
      | cons b l ih =>
        obtain ⟨j, w, bo, cc⟩ := b
        intro ho e he hj
        unfold oldAll at ho
        rw [Bool.and_eq_true, Bool.or_eq_true, Bool.not_eq_true'] at ho
        rcases List.mem_cons.1 he with e1 | e1
        · subst e1
          rcases ho.1 with h1 | h1
          · rw [memN_iff.2 hj] at h1; cases h1
          · cases bo with
            | none => rfl
            | some k => cases h1
        · exact ih ho.2 e e1 hj
    obtain ⟨Ba', τ, hst, hle, hfj, s2, g2, kp⟩ := call_core s g' hold0 hsame0 htopc hnx' hro' hbB hkeep hfB hjB hmo (fun hd => oldOf bl (hold hd)) hsl hcomp hdel hst
    have hst := appK_ok (jsK_ok hst)
    obtain ⟨hwr, sp', ss', hst, htr⟩ := wroteK_ok hst
    obtain ⟨v3, hst, hv3⟩ := fwdAV_ok hfj hst
    injection hst with hst
    injection hst with e1 e2
    subst e1; subst e2
    have hv := hv3 _ hv
    obtain ⟨f1, hp, hs⟩ := hrun G hG Q hK c τ f h' v' s2 hv g2 dcr hlen
    refine SeqD.callW hw hcl hcal hca hp (fun hd => ?_) (fun hd => wr_mask hd hwr) (fun hd SP h1 => kp.loads hd hwr h1) (fun hd SP SS h1 h2 => ?_) hs
    · rw [hd, Bool.true_and, Bool.not_eq_false'] at hm; exact hm
    · obtain ⟨e1, e2⟩ := htr hd
      show LR _ sp' SP ∧ LR _ ss' _
      rw [e1, e2]
      exact ⟨kp.tk h1, kp.now i, kp.ts h2⟩

/-! ### append -/
theorem Src.ok {size : Nat} {h : H} {σ : Sg} {a : Option (Nat × Nat)} {n sz : Nat} {full : Bool} {xs : List Sc} (hok : BlOK σ bl h) (hs : Src size bl a n sz xs) {v' : AV} (hr : RAV σ (.one (.sl a n full sz)) v') :
    (n = 0 ∧ xs = [] ∧ ∃ f' z', v' = .one (.sl none 0 f' z')) ∨ (∃ j o b e, a = some (j, o) ∧ σ j = some (some b) ∧ sz = size ∧ v' = .one (.sl (some (b, o)) n full sz) ∧ h.load b o (n * size) = some xs ∧ e ∈ bl ∧ e.j = j ∧ (∀ s, e.c ≠ .res s)) := by
  cases a with
  | none =>
    obtain ⟨rfl, rfl⟩ := hs
    obtain ⟨s', rfl, r⟩ := hr
    have r : s' = _ := r
    exact .inl ⟨rfl, rfl, _, _, by rw [r]⟩
  | some a =>
    obtain ⟨j, o⟩ := a
    obtain ⟨rfl, w, c, hc, hx⟩ := hs
    obtain ⟨e, he, hj, _, hec⟩ := clOf_ok hc
    obtain ⟨s', rfl, r⟩ := hr
    have hent := hok.ent e he
    rcases r with ⟨b, hb, rfl⟩ | ⟨hb, rfl, rfl⟩
    · refine .inr ⟨j, o, b, e, rfl, hb, rfl, rfl, ?_, he, hj, fun s es => ?_⟩
      · unfold Ent at hent
        rw [hj, hb, hec] at hent
        cases c with
        | raw l =>
          obtain ⟨h1, rfl⟩ := hx
          have hent : h.get b = some l := hent
          rw [H.load_of hent h1]
        | ex l =>
          obtain ⟨hf, h1, rfl⟩ := hx
          obtain ⟨l', h2, h3⟩ := hent
          rw [LR.flat hf h3] at h2
          rw [H.load_of h2 h1]
        | res s => exact hx.elim
      · rw [hec] at es; subst es; exact hx
    · unfold Ent at hent
      rw [hj, hb] at hent
      have hent : e.c = .raw [] := hent
      rw [hec] at hent
      subst hent
      obtain ⟨h1, rfl⟩ := hx
      exact .inl ⟨rfl, by simp, _, _, rfl⟩

theorem lenCells_of {h : H} {size n sz : Nat} {full : Bool} {b o : Nat} {xs : List Sc} (hs : sz = size) (hl : h.load b o (n * size) = some xs) : lenCells h size (.one (.sl (some (b, o)) n full sz)) = some (n, xs) := by
  subst hs
  simp only [lenCells, if_true, hl, Option.map_some]

/-- A block is gone. -/
theorem SI.kill {G : Gh} {σ : Sg} {f : FF} {h : H} (s : SI G σ p bl nb f h) {dr : Bool} {c len : Nat} (g : RG dr c len i σ bl G.h h) {e : Bk} (he : e ∈ bl) (hw : e.w = true) {b : Nat} (hb : σ e.j = some (some b)) (hnr : ∀ s, e.c ≠ .res s) {bl1 : BL} (hs : bl1.Sublist bl) (hne : ∀ e' ∈ bl1, e'.j ≠ e.j) :
    SI G σ p bl1 nb f (h.kill b) ∧ RG dr c len i σ bl1 G.h (h.kill b) ∧ h.ro ≤ b ∧ ∀ e' ∈ bl1, ∀ x, (Foot σ (h.kill b) e' x ↔ Foot σ h e' x) ∧ (Foot σ h e' x → (h.kill b).get x = h.get x) := by
  have hfb : Foot σ h e b := by
    unfold Foot
    rw [hb]
    cases hc : e.c with
    | res r => exact absurd hc (hnr r)
    | _ => rfl
  have hget : ∀ e' ∈ bl1, ∀ x, Foot σ h e' x → (h.kill b).get x = h.get x := fun e' he' x hx => by
    rw [H.get_kill, if_neg fun ex => ?_]
    exact s.ok.dis e' (hs.subset he') e he (hne e' he') (.inr hw) x hx (ex ▸ hfb)
  obtain ⟨hok, hff⟩ := (s.ok.sub hs).frame (Sg.le.refl σ) hget (Nat.le_refl _) (h' := h.kill b) rfl
  refine ⟨⟨s.ag, hok, s.top, s.nx, s.ro, s.lo, fun x hx hmd => ?_, fun e' he' hw' x hx => s.own e' (hs.subset he') hw' x ((hff e' he' x).1 hx), s.kn, s.pin⟩, ⟨g.lo, g.hi, fun e' he' x hx => g.fresh e' (hs.subset he') x ((hff e' he' x).1 hx), fun hd e' he' => ?_⟩, s.ok.wr e he hw b hfb, fun e' he' x => ⟨hff e' he' x, hget e' he' x⟩⟩
  · rw [H.get_kill, if_neg fun ex => ?_]
    · exact s.keep x hx hmd
    · subst ex
      rcases s.own e he hw x hfb with h1 | h1
      · omega
      · exact hmd h1
  · have := g.born hd e' (hs.subset he')
    cases hb' : e'.born with
    | none => rw [hb'] at this; intro x hx; exact this x ((hff e' he' x).1 hx)
    | some k => rw [hb'] at this; exact this

theorem Run.opApp {s0 x0 : Operand} {args : Array Operand} {ts : Array TypeId} {t : TypeId} {e : TypeId} {a a' : Option (Nat × Nat)} {sn sz xn sz' : Nat} {full full' : Bool} (ho : o.op = .call ⟨.builtin .append, args, ts⟩) (hargs : args.toList = [s0, x0]) (hts : ts.toList = [t, t]) (hty : (X.T t).ty = .slice e)
    (hps : P.ev p s0 = .one (.sl a sn full sz)) (hpx : P.ev p x0 = .one (.sl a' xn full' sz')) (hr : AppH X nt k K e a sn full sz a' xn sz' ⟨C, o, rest, i, S⟩ ⟨p, dc, bl, nb, sp, ss⟩) : Run X nt k (.op C o rest i) S ⟨p, dc, bl, nb, sp, ss⟩ K := by
  intro G hG Q hK c σ f h s g dcr hlen hw
  have s : SI G σ p bl nb f h := s
  have g : RG C.dr c C.ops.length i σ bl G.h h := g
  obtain ⟨old, new, hso, hsn, hsz, hb1, hb2, hz, hpos⟩ := hr
  have hso : Src (X.T e).size bl a sn sz old := hso
  have hsn : Src (X.T e).size bl a' xn sz' new := hsn
  rw [Bool.and_eq_true] at hsz
  have hsz0 : 0 < (X.T e).size := by
    have := hsz.1
    unfold Nat.blt at this
    exact Nat.le_of_ble_eq_true this
  have hzl := lenK_ok hsz.2
  have hvs := s.ag.ev s0
  rw [hps] at hvs
  have hvx := s.ag.ev x0
  rw [hpx] at hvx
  have hcl : isCall o.op = false := by rw [ho]; rfl
  have hW : isW X o.op = true := by rw [ho]; rfl
  have hop : ∀ h id, aop X f.ev h id o.op = abuiltin X h id .append [t, t] [f.ev s0, f.ev x0] := fun h id => by
    rw [ho]
    simp only [aop, hargs, hts, List.map_cons, List.map_nil]
  -- what the second one holds
  have hlc : ∃ v, f.ev x0 = v ∧ lenCells h (X.T e).size v = some (xn, new) := by
    rcases Src.ok s.ok hsn hvx with ⟨rfl, rfl, f', z', e1⟩ | ⟨j, o', b, en, rfl, hb, rfl, e1, hl, _⟩
    · exact ⟨_, e1, rfl⟩
    · exact ⟨_, e1, lenCells_of rfl hl⟩
  obtain ⟨vx, hvx1, hlc⟩ := hlc
  have hcond : ¬ (t ≠ t ∨ (X.T e).size = 0 ∨ (X.T e).zero.length ≠ (X.T e).size) := by
    rintro (h1 | h1 | h1)
    · exact h1 rfl
    · omega
    · exact h1 hzl
  have hi : i < C.ops.length := by omega
  have hlt : ∀ e ∈ bl, e.j < nb := fun e he => (s.ok.ent e he).ne_top s.top
  by_cases hx0 : xn = 0
  · obtain ⟨st', hst, hrun⟩ := hz hx0
    unfold app0St at hst
    obtain ⟨hwr, sp', ss', hst, htr⟩ := wroteK_ok hst
    injection hst with hst
    subst hst
    subst hx0
    have hres : ∃ v', aop X f.ev h (c + i) o.op = some (v', h) ∧ RAV σ (.one (nilOr a sn full sz)) v' := by
      rcases Src.ok s.ok hso hvs with ⟨rfl, rfl, f', z', e1⟩ | ⟨j, o', b, en, rfl, hb, rfl, e1, hl, _⟩
      · have e1 : f.ev s0 = _ := e1
        refine ⟨.one (.sl none 0 true 0), ?_, ?_⟩
        · rw [hop, e1, hvx1]
          simp only [abuiltin, hty]
          rw [if_neg hcond, hlc]
          simp only [Option.bind_some, if_true]
        · obtain ⟨s', e2, r⟩ := hvs
          cases a with
          | none => exact ⟨_, rfl, rfl⟩
          | some a =>
            rcases r with ⟨b, hb, rfl⟩ | ⟨hb, _, rfl⟩
            · have e2 : f.ev s0 = _ := e2
              rw [e1] at e2; injection e2 with e2; injection e2 with e2; cases e2
            · exact ⟨_, rfl, .inr ⟨hb, rfl, rfl⟩⟩
      · have e1 : f.ev s0 = _ := e1
        refine ⟨.one (.sl (some (b, o')) sn full (X.T e).size), ?_, ⟨_, rfl, .inl ⟨b, hb, rfl⟩⟩⟩
        rw [hop, e1, hvx1]
        simp only [abuiltin, hty]
        rw [if_neg hcond, hlc]
        simp only [Option.bind_some, if_true]
    obtain ⟨v', ha, hv⟩ := hres
    obtain ⟨f1, hp, hs⟩ := hrun G hG Q hK c σ f h v' s hv g.next dcr hlen
    have kp := Kept.refl σ bl h
    refine SeqD.write hw hW hcl ha hp (fun hd => wr_mask hd hwr) (fun hd SP h1 => kp.loads hd hwr h1) (fun hd SP SS h1 h2 => ?_) hs
    obtain ⟨e1, e2⟩ := htr hd
    show LR _ sp' SP ∧ LR _ ss' _
    rw [e1, e2]
    exact ⟨kp.tk h1, kp.now i, kp.ts h2⟩
  · have hx0' : 0 < xn := by omega
    obtain ⟨hp1, hp2⟩ := hpos hx0'
    -- the common end
    have fin : ∀ (mods : List Nat) (bl1 : BL) (h1 : H) (st' : St), appSt C i (old ++ new) mods ⟨p, dc, bl, nb, sp, ss⟩ = some st' →
        Run X nt k (.put C o.dst (.one (.sl (some (nb, 0)) (sn + xn) false (X.T e).size)) rest i) S st' K →
        (∀ bl1 : BL, bl1.Sublist bl → (∀ e ∈ bl1, e.j ∉ mods) → SI G σ p bl1 nb f h1 ∧ RG C.dr c C.ops.length i σ bl1 G.h h1 ∧ ∀ e' ∈ bl1, ∀ x, (Foot σ h1 e' x ↔ Foot σ h e' x) ∧ (Foot σ h e' x → h1.get x = h.get x)) →
        aop X f.ev h (c + i) o.op = some (.one (.sl (some (c + i, 0)) (sn + xn) false (X.T e).size), h1.put (c + i) (old ++ new)) →
        SeqD X nt C c i (o :: rest) f h σ bl sp ss (stackQ X nt S Q .norm) := by
      intro mods _ h1 st' hst hrun hbl1 ha
      unfold appSt at hst
      dsimp only at hst
      obtain ⟨bl1, hst, hsl, hcomp, hdel⟩ := delsK_ok hst
      have hdel := hdel s.ok.uniq
      obtain ⟨hwr, sp', ss', hst, htr⟩ := wroteK_ok hst
      injection hst with hst
      subst hst
      obtain ⟨s1, g1, k1⟩ := hbl1 bl1 hsl hdel
      obtain ⟨s2, g2, hle, k2⟩ := s1.new g1 hi (cl := .raw (old ++ new)) (l' := old ++ new) (.inr rfl)
      obtain ⟨f1, hp, hs⟩ := hrun G hG Q hK c _ f _ (.one (.sl (some (c + i, 0)) (sn + xn) false (X.T e).size)) s2 ⟨_, rfl, .inl ⟨_, Sg.upd_at .., rfl⟩⟩ g2 dcr hlen
      have kp : Kept (nb :: mods) σ (σ.upd nb (some (c + i))) bl (⟨nb, true, some i, .raw (old ++ new)⟩ :: bl1) h (h1.put (c + i) (old ++ new)) := by
        have nm : ∀ e : Bk, memN e.j (nb :: mods) = false → e.j ≠ nb ∧ e.j ∉ mods := fun e he => by
          have := memN_false he
          simp only [List.mem_cons, not_or] at this
          exact this
        refine ⟨fun e he hm => List.mem_cons_of_mem _ (hcomp e he (nm e hm).2), fun e he hm => ?_, fun e he hm x => ?_⟩
        · rcases List.mem_cons.1 he with e1 | e1
          · subst e1; exact absurd rfl (nm _ hm).1
          · exact hsl.subset e1
        · have he1 := hcomp e he (nm e hm).2
          exact ⟨(k2 e he1 x).1.trans (k1 e he1 x).1, fun hx => ((k2 e he1 x).2 ((k1 e he1 x).1.2 hx)).trans ((k1 e he1 x).2 hx)⟩
      refine SeqD.write hw hW hcl ha hp (fun hd => wr_mask hd hwr) (fun hd SP h1 => kp.loads hd hwr h1) (fun hd SP SS h1 h2 => ?_) hs
      obtain ⟨e1, e2⟩ := htr hd
      show LR _ sp' SP ∧ LR _ ss' _
      rw [e1, e2]
      exact ⟨kp.tk h1, kp.now i, kp.ts h2⟩
    have plain : ∀ bl1 : BL, bl1.Sublist bl → SI G σ p bl1 nb f h ∧ RG C.dr c C.ops.length i σ bl1 G.h h ∧ ∀ e' ∈ bl1, ∀ x, (Foot σ h e' x ↔ Foot σ h e' x) ∧ (Foot σ h e' x → h.get x = h.get x) := fun bl1 hsl => ⟨s.sub hsl, g.sub hsl, fun _ _ _ => ⟨Iff.rfl, fun _ => rfl⟩⟩
    rcases Src.ok s.ok hso hvs with ⟨rfl, rfl, f', z', e1⟩ | ⟨j, o', b, en, rfl, hb, rfl, e1, hl, hen, hej, henr⟩
    · have e1 : f.ev s0 = _ := e1
      have ha : aop X f.ev h (c + i) o.op = some (.one (.sl (some (c + i, 0)) (0 + xn) false (X.T e).size), h.put (c + i) ([] ++ new)) := by
        rw [hop, e1, hvx1]
        simp only [abuiltin, hty]
        rw [if_neg hcond, hlc]
        simp only [Option.bind_some]
        rw [if_neg hx0, if_pos ⟨by rw [Nat.zero_add] at hb1; exact hb1, by omega⟩, Nat.zero_add]
        rfl
      cases a with
      | none =>
        obtain ⟨st', hst, hrun⟩ := hp1 (.inr rfl)
        exact fin [] bl h st' hst hrun (fun bl1 h1 _ => plain bl1 h1) ha
      | some a =>
        cases full with
        | true =>
          obtain ⟨st', hst, hrun⟩ := hp1 (.inl rfl)
          exact fin [] bl h st' hst hrun (fun bl1 h1 _ => plain bl1 h1) ha
        | false =>
          obtain ⟨_, _, _, st', hst, hrun⟩ := hp2 rfl a.1 a.2 rfl
          exact fin [a.1] bl h st' hst hrun (fun bl1 h1 _ => plain bl1 h1) ha
    · have e1 : f.ev s0 = _ := e1
      have hab : ∀ h2, (if full = true then some (AV.one (.sl (some (c + i, 0)) (sn + xn) false (X.T e).size), h.put (c + i) (old ++ new)) else if h.ro ≤ b then some (.one (.sl (some (c + i, 0)) (sn + xn) false (X.T e).size), (h.kill b).put (c + i) (old ++ new)) else none) = some (AV.one (.sl (some (c + i, 0)) (sn + xn) false (X.T e).size), h2) →
          aop X f.ev h (c + i) o.op = some (.one (.sl (some (c + i, 0)) (sn + xn) false (X.T e).size), h2) := fun h2 hh => by
        rw [hop, e1, hvx1]
        simp only [abuiltin, hty]
        rw [if_neg hcond, hlc]
        simp only [Option.bind_some]
        rw [if_neg hx0, if_pos ⟨trivial, hb2, hb1⟩, hl]
        simp only [Option.bind_some]
        exact hh
      cases full with
      | true =>
        obtain ⟨st', hst, hrun⟩ := hp1 (.inl rfl)
        exact fin [] bl h st' hst hrun (fun bl1 h1 _ => plain bl1 h1) (hab _ (by rw [if_pos rfl]))
      | false =>
        obtain ⟨cc, hcc, hccr, st', hst, hrun⟩ := hp2 rfl j o' rfl
        obtain ⟨e2, he2, hj2, hw2, hc2⟩ := clOf_ok (show clOf bl j = some (true, cc) from hcc)
        have hee : e2 = en := s.ok.same he2 hen (by rw [hj2, hej])
        subst hee
        have hro : h.ro ≤ b := (s.kill g he2 hw2 (by rw [hj2]; exact hb) (by rw [hc2]; exact hccr) (List.nil_sublist _) (fun _ h => by cases h)).2.2.1
        refine fin [j] bl (h.kill b) st' hst hrun (fun bl1 h1 h2 => ?_) (hab _ (by rw [if_neg (by simp), if_pos hro]))
        obtain ⟨a1, a2, _, a4⟩ := s.kill g he2 hw2 (by rw [hj2]; exact hb) (by rw [hc2]; exact hccr) h1 fun e' he' ej => h2 e' he' (by rw [ej, hj2]; exact List.mem_cons_self)
        exact ⟨a1, a2, a4⟩

end
end Go.AM
end
