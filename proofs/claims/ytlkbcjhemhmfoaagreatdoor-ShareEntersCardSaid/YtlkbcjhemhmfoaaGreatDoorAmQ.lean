/- What a walk has to show, by computation: of an operation, a region, a body. No program here. -/
import Derived.Test.YtlkbcjhemhmfoaaGreatDoorAmP
set_option linter.unusedSimpArgs false
set_option linter.unusedVariables false
namespace Go.AM
open Go
noncomputable section

/-- Something that lies in blocks of its own. -/
structure Res where
  R : Nat → H → Prop
  F : Nat → H → Nat → Prop
  loc : ∀ b h h', R b h → (∀ i, F b h i → h'.get i = h.get i) → R b h' ∧ ∀ i, F b h' i ↔ F b h i

/-- What a block holds: cells told by places; cells as they are; something. -/
inductive Cl where
  | ex (l : List Sc)
  | raw (l : List Sc)
  | res (r : Res)

/-- What is known of a block: its place; may it be written; which operation of the region has made it; what it holds. -/
structure Bk where
  j : Nat
  w : Bool
  born : Option Nat
  c : Cl
abbrev BL := List Bk

def nth {α : Type} : List α → Nat → Option α
  | [], _ => none
  | x :: _, 0 => some x
  | _ :: l, n + 1 => nth l n
theorem nth_eq {α : Type} : ∀ (l : List α) (n : Nat), nth l n = l[n]?
  | [], _ => by simp [nth]
  | x :: _, 0 => rfl
  | _ :: l, n + 1 => by rw [nth, nth_eq l n]; simp

/-! ### By steps, with what comes behind as a function: so that a result is there whole -/
section
variable {ρ : Type}
def blk (bl : BL) (j : Nat) (k : Bool → Option Nat → Cl → Option ρ) : Option ρ := match bl with
  | [] => none
  | ⟨j', w, born, c⟩ :: bl => bif Nat.beq j' j then k w born c else blk bl j k
/-- With another content. -/
def updK (bl : BL) (j : Nat) (c : Cl) (k : BL → Option ρ) : Option ρ := match bl with
  | [] => none
  | ⟨j', w, born, c'⟩ :: bl => bif Nat.beq j' j then k (⟨j', w, born, c⟩ :: bl) else updK bl j c (fun bl' => k (⟨j', w, born, c'⟩ :: bl'))
def delK (bl : BL) (j : Nat) (k : BL → Option ρ) : Option ρ := match bl with
  | [] => k []
  | ⟨j', w, born, c'⟩ :: bl => bif Nat.beq j' j then k bl else delK bl j (fun bl' => k (⟨j', w, born, c'⟩ :: bl'))
def delsK : List Nat → BL → (BL → Option ρ) → Option ρ
  | [], bl, k => k bl
  | j :: js, bl, k => delK bl j (fun bl' => delsK js bl' k)
def oldK (bl : BL) (k : BL → Option ρ) : Option ρ := match bl with
  | [] => k []
  | ⟨j', w, _, c'⟩ :: bl => oldK bl (fun bl' => k (⟨j', w, none, c'⟩ :: bl'))
def appK {α : Type} (l m : List α) (k : List α → Option ρ) : Option ρ := match l with
  | [] => k m
  | x :: l => appK l m (fun l' => k (x :: l'))
def takeK {α : Type} : List α → Nat → (List α → Option ρ) → Option ρ
  | _, 0, k => k []
  | [], _ + 1, _ => none
  | x :: l, n + 1, k => takeK l n (fun l' => k (x :: l'))
def dropK {α : Type} : List α → Nat → (List α → Option ρ) → Option ρ
  | l, 0, k => k l
  | [], _ + 1, _ => none
  | _ :: l, n + 1, k => dropK l n k
def setK {α : Type} : List α → Nat → List α → (List α → Option ρ) → Option ρ
  | l, 0, [], k => k l
  | [], _, _, _ => none
  | _ :: l, 0, y :: ys, k => setK l 0 ys (fun l' => k (y :: l'))
  | x :: l, n + 1, ys, k => setK l n ys (fun l' => k (x :: l'))
def repK {α : Type} (z : List α) : Nat → (List α → Option ρ) → Option ρ
  | 0, k => k []
  | n + 1, k => repK z n (fun l => appK z l k)
end
def lenK {α : Type} : List α → Nat → Bool
  | [], 0 => true
  | [], _ + 1 => false
  | _ :: _, 0 => false
  | _ :: l, n + 1 => lenK l n
section
variable {ρ : Type}
def fillK (place : Nat → Option (Nat × Nat)) (ev : Operand → AV) : List Sc → List (Nat × Operand) → (List Sc → Option ρ) → Option ρ
  | cs, [], k => k cs
  | cs, (i, x) :: rest, k => match place i with
    | some (off, size) => match (ev x).cells with
      | some xs => bif lenK xs size then setK cs off xs (fun cs' => fillK place ev cs' rest k) else none
      | none => none
    | none => none
def mkK (agg : Bool) (l : List Sc) (k : AV → Option ρ) : Option ρ := match mkAV agg l with | some v => k v | none => none
end

abbrev Tk := List (Nat × Nat × Bool)
abbrev Ts := List (Nat × List Nat)
structure Cx where
  ops : List Oper
  dr : Bool
  bs : List Nat
abbrev DC := List (Nat × Bool)
structure St where
  p : P
  dc : DC
  bl : BL
  nb : Nat
  sp : Tk
  ss : Ts
def memN (n : Nat) : List Nat → Bool
  | [] => false
  | m :: l => Nat.beq n m || memN n l
def ldOK (C : Cx) (i : Nat) (born : Option Nat) (j : Nat) (ss : Ts) : Bool :=
  bif C.dr then (match born with | none => true | some k => (C.bs.getD i 0).testBit k) && allB (fun s => (C.bs.getD i 0).testBit s.1 || !memN j s.2) ss else true
def noMask (bi : Nat) : Nat → List Oper → Bool
  | _, [] => true
  | k, o :: l => (!isN o.op || bi.testBit k) && noMask bi (k + 1) l
def wrOK (C : Cx) (i : Nat) (mods : List Nat) (sp : Tk) : Bool :=
  bif C.dr then noMask (C.bs.getD i 0) 0 C.ops && allB (fun s => (C.bs.getD i 0).testBit s.1 || (!s.2.2 && !memN s.2.1 mods)) sp else true
section
variable {ρ : Type}
/-- What has been loaded, as it is behind a write. -/
def staleK (mods : List Nat) : Tk → (Tk → Option ρ) → Option ρ
  | [], k => k []
  | (i, j, s) :: l, k => bif s || memN j mods then staleK mods l (fun l' => k ((i, j, true) :: l')) else staleK mods l (fun l' => k ((i, j, false) :: l'))
def modsK (mods : List Nat) : Ts → (Ts → Option ρ) → Option ρ
  | [], k => k []
  | (i, ms) :: l, k => modsK mods l (fun l' => appK mods ms (fun ms' => k ((i, ms') :: l')))
/-- Behind a new block at the place nb. -/
def newK (C : Cx) (nb : Nat) (ss : Ts) (k : Ts → Option ρ) : Option ρ := bif C.dr then modsK [nb] ss k else k ss
/-- Behind a write at operation i of the blocks at 'mods'. -/
def wroteK (C : Cx) (i : Nat) (mods : List Nat) (sp : Tk) (ss : Ts) (k : Tk → Ts → Option ρ) : Option ρ :=
  bif wrOK C i mods sp then (bif C.dr then staleK mods sp (fun sp' => modsK mods ss (fun ss' => k sp' ((i, mods) :: ss'))) else k sp ss) else none
end

/-! ### What a run comes to -/
inductive Fo where
  | code (c : Code)
  | leave (e : Ex)
  | reg (C : Cx) (rest : List Oper) (i : Nat)
  | op (C : Cx) (o : Oper) (rest : List Oper) (i : Nat)
  | put (C : Cx) (dst : Option Tmp) (v : AV) (rest : List Oper) (i : Nat)
inductive Kt where
  | seq (b : Code)
  | block (id : Nat)
/-- What comes behind an operation. -/
structure Rs where
  C : Cx
  o : Oper
  rest : List Oper
  i : Nat
  S : List Kt
inductive Ev where
  | fin (e : Ex) (p : P) (bl : BL) (nb : Nat)
  | split (b : Bool) (S : List Kt) (f1 : Fo) (st1 : St) (f2 : Fo) (st2 : St)
  | loop (b : Code) (S : List Kt) (st : St)
  | draw (ops : List Oper) (S : List Kt) (st : St)
  | ask (A : Prop) (v : AV) (r : Rs) (st : St)
  | loadR (l : List Sc) (off n : Nat) (agg : Bool) (r : Rs) (st : St)
  | loadS (s : Res) (w : Bool) (off n : Nat) (agg : Bool) (r : Rs) (st : St)
  | storeR (l : List Sc) (j off : Nat) (xs : List Sc) (r : Rs) (st : St)
  | call (g : FuncId) (args : List AV) (r : Rs) (st : St)
  | app (e : TypeId) (a : Option (Nat × Nat)) (sn : Nat) (full : Bool) (sz : Nat) (a' : Option (Nat × Nat)) (xn sz' : Nat) (r : Rs) (st : St)

def evs (p : P) : List Operand → List AV
  | [] => []
  | x :: l => P.ev p x :: evs p l
def capAV : List (Nat × Nat) → List AV
  | [] => []
  | a :: l => .one (.ptr (some a)) :: capAV l
section
variable {ρ : Type}
def evsK (p : P) : List Operand → (List AV → Option ρ) → Option ρ
  | [], k => k []
  | x :: l, k => evsK p l (fun l' => match P.ev p x with
    | .one s => k (.one s :: l')
    | .agg s => k (.agg s :: l')
    | .tup s => k (.tup s :: l')
    | .top => k (.top :: l'))
def capK : List (Nat × Nat) → (List AV → Option ρ) → Option ρ
  | [], k => k []
  | a :: l, k => capK l (fun l' => k (.one (.ptr (some a)) :: l'))
end
/-- A bound of a slice: none given, or a number. -/
def bdI (p : P) (d : Int) : Option Operand → Option Int
  | none => some d
  | some x => match P.ev p x with | .one (.int _ z) => some z | _ => none

/-- A value for the operation, and so on. -/
abbrev KO := AV → St → Option Ev

/-- One operation. -/
def oexec (X : Env) (C : Cx) (i : Nat) (o : Oper) (rest : List Oper) (S : List Kt) (st : St) (k : KO) : Option Ev :=
  match st with
  | ⟨p, dc, bl, nb, sp, ss⟩ =>
  match o.op with
  | .load t a => match P.ev p a with
    | .one (.ptr (some (j, off))) => bif (X.T t).ty.isNone then none else blk bl j fun w born c => bif ldOK C i born j ss then
        (match c with
          | .ex l => dropK l off fun l1 => takeK l1 (X.T t).size fun xs => mkK (X.T t).isAgg xs fun v => k v ⟨p, dc, bl, nb, (bif C.dr then (i, j, false) :: sp else sp), ss⟩
          | .raw l => some (.loadR l off (X.T t).size (X.T t).isAgg ⟨C, o, rest, i, S⟩ ⟨p, dc, bl, nb, (bif C.dr then (i, j, false) :: sp else sp), ss⟩)
          | .res r => match born with
            | none => some (.loadS r w off (X.T t).size (X.T t).isAgg ⟨C, o, rest, i, S⟩ ⟨p, dc, bl, nb, (bif C.dr then (i, j, false) :: sp else sp), ss⟩)
            | some _ => none) else none
    | _ => none
  | .store t a x => match P.ev p a with
    | .one (.ptr (some (j, off))) => bif (X.T t).ty.isNone then none else match (P.ev p x).cells with
      | some xs => bif lenK xs (X.T t).size then blk bl j fun w _ c => bif w then
          (match c with
            | .ex l => setK l off xs fun l' => updK bl j (.ex l') fun bl' => wroteK C i [j] sp ss fun sp' ss' => k undefA ⟨p, dc, bl', nb, sp', ss'⟩
            | .raw l => bif allB flatSc xs then wroteK C i [j] sp ss fun sp' ss' => some (.storeR l j off xs ⟨C, o, rest, i, S⟩ ⟨p, dc, bl, nb, sp', ss'⟩) else none
            | .res r => none) else none else none
      | none => none
    | _ => none
  | .alloc t => bif (X.T t).ty.isNone then none else newK C nb ss fun ss => k (.one (.ptr (some (nb, 0)))) ⟨p, dc, ⟨nb, true, some i, .ex (X.T t).zero⟩ :: bl, nb + 1, sp, ss⟩
  | .box _ x => match (P.ev p x).cells with
    | some l => newK C nb ss fun ss => k (.one (.ptr (some (nb, 0)))) ⟨p, dc, ⟨nb, true, some i, .ex l⟩ :: bl, nb + 1, sp, ss⟩
    | none => none
  | .build t parts => match (X.T t).ty with
    | .struct fs => bif allB (fun p => Nat.blt 0 (X.T p.2).size) fs then fillK (fun i => match nth fs i with | some p => some (p.1, (X.T p.2).size) | none => none) (P.ev p) (X.T t).zero parts.toList fun l => k (.agg l) ⟨p, dc, bl, nb, sp, ss⟩ else none
    | _ => none
  | .buildSlice t len parts => match (X.T t).ty with
    | .slice e => bif Nat.ble (len * (X.T e).size) 1000000 && Nat.blt 0 (X.T e).size && lenK (X.T e).zero (X.T e).size && !(X.T e).ty.isNone then
        repK (X.T e).zero len fun z => fillK (fun i => some (i * (X.T e).size, (X.T e).size)) (P.ev p) z parts.toList fun l =>
          newK C nb ss fun ss => k (.one (.sl (some (nb, 0)) len true (X.T e).size)) ⟨p, dc, ⟨nb, true, some i, .ex l⟩ :: bl, nb + 1, sp, ss⟩ else none
    | _ => none
  | .makeSlice t l c => match (X.T t).ty with
    | .slice e => match P.ev p l, P.ev p c with
      | .one (.int _ n), .one (.int _ m) => bif lenK (X.T e).zero (X.T e).size && !(X.T e).ty.isNone then
          newK C nb ss fun ss => some (.ask (0 ≤ n ∧ n = m ∧ (X.T e).bytes * m ≤ 281474976710656 ∧ m ≤ 281474976710656) (.one (.sl (some (nb, 0)) n.toNat true (X.T e).size)) ⟨C, o, rest, i, S⟩ ⟨p, dc, ⟨nb, true, some i, .raw (zeros m.toNat (X.T e).zero)⟩ :: bl, nb + 1, sp, ss⟩) else none
      | _, _ => none
    | _ => none
  | .field t x f => match (X.T t).ty, P.ev p x with
    | .struct fs, .agg l => match nth fs f with
      | some (off, ft) => bif (X.T ft).ty.isNone then none else dropK l off fun l1 => takeK l1 (X.T ft).size fun xs => mkK (X.T ft).isAgg xs fun v => k v ⟨p, dc, bl, nb, sp, ss⟩
      | none => none
    | _, _ => none
  | .indexAddr t x iv => match (X.T t).ty with
    | .slice e => match P.ev p x, P.ev p iv with
      | .one (.sl (some (j, off)) n _ sz), .one (.int _ z) => bif Nat.beq sz (X.T e).size && Nat.blt 0 (X.T e).size then some (.ask (0 ≤ z ∧ z < n) (.one (.ptr (some (j, off + z.toNat * sz)))) ⟨C, o, rest, i, S⟩ ⟨p, dc, bl, nb, sp, ss⟩) else none
      | _, _ => none
    | _ => none
  | .slice t x lo hi mx => match (X.T t).ty with
    | .slice e => match P.ev p x with
      | .one (.sl a n full sz) => match bdI p 0 lo, bdI p n hi, bdI p n mx with
        | some l, some h, some m => bif Nat.blt 0 (X.T e).size && (!mx.isSome || hi.isSome) then
            (match a with
              | none => some (.ask (0 ≤ l ∧ l ≤ h ∧ h ≤ m ∧ m ≤ n) (.one (.sl none 0 true 0)) ⟨C, o, rest, i, S⟩ ⟨p, dc, bl, nb, sp, ss⟩)
              | some (j, off) => bif Nat.beq sz (X.T e).size then some (.ask (0 ≤ l ∧ l ≤ h ∧ h ≤ m ∧ m ≤ n) (.one (.sl (some (j, off + l.toNat * sz)) (h.toNat - l.toNat) (match mx, hi with | none, none => full | none, some _ => full && decide (h.toNat = n) | some _, _ => decide (m = h)) sz)) ⟨C, o, rest, i, S⟩ ⟨p, dc, bl, nb, sp, ss⟩) else none) else none
        | _, _, _ => none
      | _ => none
    | .str => match P.ev p x with
      | .one (.str s) => match bdI p 0 lo, bdI p s.size hi, mx with
        | some l, some h, none => some (.ask (0 ≤ l ∧ l ≤ h ∧ h ≤ s.size) (.one (.str (s.extract l.toNat h.toNat))) ⟨C, o, rest, i, S⟩ ⟨p, dc, bl, nb, sp, ss⟩)
        | _, _, _ => none
      | _ => none
    | _ => none
  | .call ⟨.builtin .append, args, ts⟩ => match args.toList, ts.toList with
    | [s, x], [t, u] => bif Nat.beq t u then match (X.T t).ty with
      | .slice e => match P.ev p s, P.ev p x with
        | .one (.sl a sn full sz), .one (.sl a' xn _ sz') => some (.app e a sn full sz a' xn sz' ⟨C, o, rest, i, S⟩ ⟨p, dc, bl, nb, sp, ss⟩)
        | _, _ => none
      | _ => none else none
    | _, _ => none
  | .call ⟨.value f, args, _⟩ => match P.ev p f with
    | .one (.fn g caps) => capK caps fun cs => evsK p args.toList fun as => appK as cs fun as => match X.E g with
      | some fE => bif allB AV.flat as && (!C.dr || (noMask (C.bs.getD i 0) 0 C.ops && !isW X o.op)) then (match fE as with | some v => bif v.flat then k v ⟨p, dc, bl, nb, sp, ss⟩ else none | none => none) else none
      | none => some (.call g as ⟨C, o, rest, i, S⟩ ⟨p, dc, bl, nb, sp, ss⟩)
    | _ => none
  | op => match pop X (P.ev p) op with | some v => k v ⟨p, dc, bl, nb, sp, ss⟩ | none => none

def dcGet : DC → Nat → Option Bool
  | [], _ => none
  | (d, b) :: l, n => bif Nat.beq d n then some b else dcGet l n
def dcDelK {ρ : Type} (n : Nat) : DC → (DC → Option ρ) → Option ρ
  | [], k => k []
  | (d, b) :: l, k => bif Nat.beq d n then dcDelK n l k else dcDelK n l (fun l' => k ((d, b) :: l'))
def bEq : Bool → Bool → Bool
  | true, true => true
  | false, false => true
  | _, _ => false
/-- A value by its head. -/
def forceK {ρ : Type} (v : AV) (k : AV → Option ρ) : Option ρ := match v with
  | .one s => k (.one s)
  | .agg l => k (.agg l)
  | .tup l => k (.tup l)
  | .top => k .top
theorem forceK_eq {ρ : Type} (v : AV) (k : AV → Option ρ) : forceK v k = k v := by cases v <;> rfl
def putK (nt : Nat) (dst : Option Tmp) (v : AV) (st : St) (k : St → Option Ev) : Option Ev := match st with
  | ⟨p, dc, bl, nb, sp, ss⟩ => match dst with
    | none => k ⟨p, dc, bl, nb, sp, ss⟩
    | some d => bif Nat.blt d nt then forceK v fun v => dcDelK d dc (fun dc' => k ⟨(d, v) :: p, dc', bl, nb, sp, ss⟩) else none

/-- A run up to the first thing that has to be shown. -/
def exec (X : Env) (nt : Nat) : Nat → Fo → List Kt → St → Option Ev
  | 0, _, _, _ => none
  | n + 1, F, S, st => match F with
    | .code c => match c with
      | .skip => exec X nt n (.leave .norm) S st
      | .label _ => exec X nt n (.leave .norm) S st
      | .region _ ops draw => match st with
        | ⟨p, _, bl, nb, _, _⟩ => oldK bl fun bl => match draw with
          | false => exec X nt n (.reg ⟨ops.toList, false, []⟩ ops.toList 0) S ⟨p, [], bl, nb, [], []⟩
          | true => some (.draw ops.toList S ⟨p, [], bl, nb, [], []⟩)
      | .seq a b => exec X nt n (.code a) (.seq b :: S) st
      | .cond c a b => match st with
        | ⟨p, dc, bl, nb, sp, ss⟩ => match P.ev p c with
          | .one (.bool t) => some (.split t S (.code a) ⟨p, [], bl, nb, [], []⟩ (.code b) ⟨p, [], bl, nb, [], []⟩)
          | _ => none
      | .block id b => exec X nt n (.code b) (.block id :: S) st
      | .loop b => some (.loop b S st)
      | .scope b => exec X nt n (.code b) S st
      | .exit id => exec X nt n (.leave (.exit id)) S st
      | .ret => exec X nt n (.leave .ret) S st
      | _ => none
    | .leave e => match S with
      | [] => match st with | ⟨p, _, bl, nb, _, _⟩ => some (.fin e p bl nb)
      | .seq b :: S' => match e with
        | .norm => exec X nt n (.code b) S' st
        | e => exec X nt n (.leave e) S' st
      | .block id :: S' => match e with
        | .exit j => bif Nat.beq j id then exec X nt n (.leave .norm) S' st else exec X nt n (.leave (.exit j)) S' st
        | e => exec X nt n (.leave e) S' st
    | .reg C rest i => match rest with
      | [] => exec X nt n (.leave .norm) S st
      | o :: rest => match o.guard with
        | none => exec X nt n (.op C o rest i) S st
        | some (j, want) => match nth C.ops j with
          | some oj => match oj.dst with
            | some d => match st with
              | ⟨p, dc, bl, nb, sp, ss⟩ => match dcGet dc d with
                | some b => match bEq b want with
                  | true => exec X nt n (.op C o rest i) S ⟨p, dc, bl, nb, sp, ss⟩
                  | false => exec X nt n (.put C o.dst undefA rest i) S ⟨p, dc, bl, nb, sp, ss⟩
                | none => match P.get p d with
                  | .one (.bool b) => match want with
                    | true => some (.split b S (.op C o rest i) ⟨(d, .one (.bool true)) :: p, (d, true) :: dc, bl, nb, sp, ss⟩ (.put C o.dst undefA rest i) ⟨(d, .one (.bool false)) :: p, (d, false) :: dc, bl, nb, sp, ss⟩)
                    | false => some (.split b S (.put C o.dst undefA rest i) ⟨(d, .one (.bool true)) :: p, (d, true) :: dc, bl, nb, sp, ss⟩ (.op C o rest i) ⟨(d, .one (.bool false)) :: p, (d, false) :: dc, bl, nb, sp, ss⟩)
                  | .tup [] => exec X nt n (.put C o.dst undefA rest i) S ⟨p, dc, bl, nb, sp, ss⟩
                  | _ => none
            | none => none
          | none => none
    | .op C o rest i => oexec X C i o rest S st fun v st => exec X nt n (.put C o.dst v rest i) S st
    | .put C dst v rest i => putK nt dst v st fun st => exec X nt n (.reg C rest (i + 1)) S st

end
end Go.AM
