/- Runs with slots as functions: what the walks step by. No program here. -/
import Derived.Test.YtlkbcjhemhmfoaaGreatDoorAmM
set_option linter.unusedSimpArgs false
set_option linter.unusedVariables false
namespace Go.AM
open Go
noncomputable section

abbrev FF := Nat → AV
def FF.set (f : FF) (n : Nat) (v : AV) : FF := fun m => bif Nat.beq m n then v else f m
def FF.ev (f : FF) : Operand → AV
  | .tmp t => f t
  | .const v => constAV v
  | .func g => .one (.fn g [])
  | .global _ => .top
def putF (nt : Nat) (f : FF) (dst : Option Tmp) (v : AV) : Option FF :=
  match dst with
  | none => some f
  | some d => if d < nt then some (f.set d v) else none
def wantedF (ops : List Oper) (f : FF) (o : Oper) : Option Bool :=
  match o.guard with
  | none => some true
  | some (j, want) =>
    match (ops[j]?).bind (·.dst) with
    | some d => match f d with | .one (.bool b) => some (b == want) | .tup [] => some false | _ => none
    | none => none
def stepF (X : Env) (cf : CallF) (nt c : Nat) (ops : List Oper) (i : Nat) (o : Oper) (f : FF) (h : H) : Option (FF × H) :=
  (wantedF ops f o).bind fun w =>
    if w then
      if isCall o.op then (callee f.ev o.op).bind fun (g, args) => (cf g args h).bind fun (v, h') => (putF nt f o.dst v).map fun f' => (f', h')
      else (aop X f.ev h (c + i) o.op).bind fun (v, h') => (putF nt f o.dst v).map fun f' => (f', h')
    else (putF nt f o.dst undefA).map fun f' => (f', h)
def drawStepF (X : Env) (cf : CallF) (nt c : Nat) (ops : List Oper) (bs : List Nat) (i : Nat) (o : Oper) (f : FF) (h : H) (sp : List Lo) (ss : List Sn) : Option (FF × H × List Lo × List Sn) :=
  (wantedF ops f o).bind fun w =>
    if w then
      if isW X o.op then
        (if isCall o.op then (callee f.ev o.op).bind fun (g, args) => cf g args (maskH h c (maskOf ops (bs.getD i 0))) else aop X f.ev (maskH h c (maskOf ops (bs.getD i 0))) (c + i) o.op).bind fun (v, h') =>
          if sameLoads (bs.getD i 0) (unmaskH h c (maskOf ops (bs.getD i 0)) h') sp then (putF nt f o.dst v).map fun f' => (f', unmaskH h c (maskOf ops (bs.getD i 0)) h', sp, ⟨i, h⟩ :: ss) else none
      else if isCall o.op then
        (callee f.ev o.op).bind fun (g, args) =>
          (cf g args { maskH h c (maskOf ops (bs.getD i 0)) with ro := (maskH h c (maskOf ops (bs.getD i 0))).nx }).bind fun (v, _) =>
            if v.flat then (putF nt f o.dst v).map fun f' => (f', h, sp, ss) else none
      else if isN o.op then
        (aop X f.ev hE (c + i) o.op).bind fun (v, he) => (he.get (c + i)).bind fun l => (putF nt f o.dst v).map fun f' => (f', h.put (c + i) l, sp, ss)
      else match o.op with
        | .load t a =>
          match f.ev a with
          | .one (.ptr (some (b, off))) =>
            if (X.T t).ty.isNone then none
            else if b < c ∨ c + ops.length ≤ b ∨ (bs.getD i 0).testBit (b - c) = true then
              (h.load b off (X.T t).size).bind fun l => if sameBefore (bs.getD i 0) b off l ss then (mkAV (X.T t).isAgg l).bind fun v => (putF nt f o.dst v).map fun f' => (f', h, ⟨i, b, off, l⟩ :: sp, ss) else none
            else none
          | _ => none
        | op => (aop X f.ev hE (c + i) op).bind fun (v, _) => (putF nt f o.dst v).map fun f' => (f', h, sp, ss)
    else (putF nt f o.dst undefA).map fun f' => (f', h, sp, ss)
end

theorem ev_get (fr : Fr) : fr.ev = FF.ev (Fr.get fr) := by
  funext x
  cases x <;> rfl
theorem set_get (fr : Fr) (n : Nat) (v : AV) : Fr.get (Fr.set fr n v) = FF.set (Fr.get fr) n v := by
  funext m
  rw [Fr.get_set]
  unfold FF.set
  by_cases h : m = n
  · subst h; simp
  · have : Nat.beq m n = false := by
      cases hb : Nat.beq m n with
      | false => rfl
      | true => exact absurd (Nat.eq_of_beq_eq_true hb) h
    rw [if_neg h, this]; rfl
theorem put_get (nt : Nat) (fr : Fr) (dst : Option Tmp) (v : AV) : putF nt (Fr.get fr) dst v = (putS nt fr dst v).map Fr.get := by
  unfold putF putS
  cases dst with
  | none => rfl
  | some d =>
    dsimp only
    split
    · rw [Option.map_some, set_get]
    · rfl
theorem wanted_get (ops : List Oper) (fr : Fr) (o : Oper) : wantedF ops (Fr.get fr) o = wantedA ops fr o := rfl

section
variable {X : Env} {nt : Nat}

theorem stepF_eq {cf : CallF} {c i : Nat} {ops : List Oper} {o : Oper} {fr : Fr} {h h1 : H} {f1 : FF} (hs : stepF X cf nt c ops i o (Fr.get fr) h = some (f1, h1)) : ∃ fr1, stepA X cf nt c ops i o fr h = some (fr1, h1) ∧ Fr.get fr1 = f1 := by
  unfold stepF at hs
  unfold stepA
  rw [wanted_get] at hs
  simp only [Option.bind_eq_some_iff] at hs
  obtain ⟨b, hb, hs⟩ := hs
  rw [hb, Option.bind_some, ev_get]
  have fin : ∀ {v : AV} {h2 : H}, ((putF nt (Fr.get fr) o.dst v).map fun f' => (f', h2)) = some (f1, h1) → ∃ fr1, ((putS nt fr o.dst v).map fun fr' => (fr', h2)) = some (fr1, h1) ∧ Fr.get fr1 = f1 := fun {v h2} hp => by
    rw [put_get] at hp
    simp only [Option.map_map, Option.map_eq_some_iff] at hp ⊢
    obtain ⟨fr', hfr, e⟩ := hp
    simp only [Function.comp, Prod.mk.injEq] at e
    exact ⟨fr', ⟨fr', hfr, by rw [e.2]⟩, e.1⟩
  cases b with
  | false => exact fin hs
  | true =>
    simp only [if_true] at hs ⊢
    split at hs
    · rename_i hc
      rw [if_pos hc]
      simp only [Option.bind_eq_some_iff, Prod.exists] at hs
      obtain ⟨g, args, hcal, v, h2, hcall, hs⟩ := hs
      rw [hcal, Option.bind_some]
      dsimp only
      rw [hcall, Option.bind_some]
      exact fin hs
    · rename_i hc
      rw [if_neg hc]
      simp only [Option.bind_eq_some_iff, Prod.exists] at hs
      obtain ⟨v, h2, hop, hs⟩ := hs
      rw [hop, Option.bind_some]
      exact fin hs

def RunsF (X : Env) (nt : Nat) (c : Code) (f : FF) (h : H) (Q : Ex → FF → H → Prop) : Prop := ∀ fr, Fr.get fr = f → Runs X nt c fr h fun e fr' h' => Q e (Fr.get fr') h'
def SeqF (X : Env) (nt c : Nat) (ops : List Oper) (i : Nat) (rest : List Oper) (f : FF) (h : H) (K : FF → H → Prop) : Prop := ∀ fr, Fr.get fr = f → Seq X nt c ops i rest fr h fun fr' h' => K (Fr.get fr') h'

variable {f : FF} {h : H} {Q : Ex → FF → H → Prop}
theorem RunsF.mono {c : Code} {Q' : Ex → FF → H → Prop} (hr : RunsF X nt c f h Q) (hq : ∀ e f' h', Q e f' h' → Q' e f' h') : RunsF X nt c f h Q' := fun fr e => (hr fr e).mono fun _ _ _ q => hq _ _ _ q
theorem RunsF.skip (q : Q .norm f h) : RunsF X nt .skip f h Q := fun fr e => Runs.skip (by rw [e]; exact q)
theorem RunsF.label {l : Nat} (q : Q .norm f h) : RunsF X nt (.label l) f h Q := fun fr e => Runs.label (by rw [e]; exact q)
theorem RunsF.exit {id : Nat} (q : Q (.exit id) f h) : RunsF X nt (.exit id) f h Q := fun fr e => Runs.exit (by rw [e]; exact q)
theorem RunsF.ret (q : Q .ret f h) : RunsF X nt .ret f h Q := fun fr e => Runs.ret (by rw [e]; exact q)
def ThenF (K : FF → H → Prop) (Q : Ex → FF → H → Prop) : Ex → FF → H → Prop
  | .norm, f, h => K f h
  | e, f, h => Q e f h
theorem RunsF.seq {a b : Code} (hr : RunsF X nt a f h (ThenF (fun f h => RunsF X nt b f h Q) Q)) : RunsF X nt (.seq a b) f h Q := fun fr e => Runs.seq ((hr fr e).mono fun e fr' h' q => by
  cases e with
  | norm => exact q fr' rfl
  | exit id => exact q
  | ret => exact q)
theorem RunsF.cond {c : Operand} {a b : Code} {t : Bool} (hc : f.ev c = .one (.bool t)) (hr : RunsF X nt (if t then a else b) f h Q) : RunsF X nt (.cond c a b) f h Q := fun fr e => Runs.cond (by rw [ev_get, e]; exact hc) (hr fr e)
def InBlockF (id : Nat) (Q : Ex → FF → H → Prop) : Ex → FF → H → Prop
  | .exit j, f, h => if j = id then Q .norm f h else Q (.exit j) f h
  | e, f, h => Q e f h
theorem RunsF.block {id : Nat} {b : Code} (hr : RunsF X nt b f h (InBlockF id Q)) : RunsF X nt (.block id b) f h Q := fun fr e => Runs.block ((hr fr e).mono fun e fr' h' q => by
  cases e <;> exact q)
theorem RunsF.scope {b : Code} (hr : RunsF X nt b f h Q) : RunsF X nt (.scope b) f h Q := fun fr e => Runs.scope (hr fr e)
theorem RunsF.loop {b : Code} (I : Nat → FF → H → Prop) (hround : ∀ k f h, I k f h → RunsF X nt b f h (ThenF (fun f' h' => ∃ k', k' < k ∧ I k' f' h') Q)) (k : Nat) (h0 : I k f h) : RunsF X nt (.loop b) f h Q := fun fr e =>
  Runs.loop (fun k fr h => I k (Fr.get fr) h) (fun k fr h hI => (hround k _ h hI fr rfl).mono fun e fr' h' q => by cases e <;> exact q) k fr h (by rw [e]; exact h0)
theorem RunsF.region {id : Nat} {ops : Array Oper} (hr : SeqF X nt h.nx ops.toList 0 ops.toList f { h with nx := h.nx + ops.toList.length } (Q .norm)) : RunsF X nt (.region id ops false) f h Q := fun fr e => Runs.region (Reg.seq (hr fr e))
theorem RunsF.reg {id : Nat} {ops : Array Oper} {b : Code} (hr : SeqF X nt h.nx ops.toList 0 ops.toList f { h with nx := h.nx + ops.toList.length } (fun f h => RunsF X nt b f h Q)) : RunsF X nt (.seq (.region id ops false) b) f h Q := RunsF.seq (RunsF.region hr)
theorem SeqF.nil {c i : Nat} {ops : List Oper} {K : FF → H → Prop} (k : K f h) : SeqF X nt c ops i [] f h K := fun fr e => Seq.nil (by rw [e]; exact k)
theorem SeqF.cons {c i : Nat} {ops : List Oper} {o : Oper} {rest : List Oper} {K : FF → H → Prop} {f1 : FF} {h1 : H} (n : Nat) (hs : stepF X (callA X (runA X n)) nt c ops i o f h = some (f1, h1)) (hr : SeqF X nt c ops (i + 1) rest f1 h1 K) : SeqF X nt c ops i (o :: rest) f h K := fun fr e => by
  subst e
  obtain ⟨fr1, e1, e2⟩ := stepF_eq hs
  exact Seq.cons n e1 (hr fr1 e2)

theorem drawStepF_eq {cf : CallF} {c i : Nat} {ops : List Oper} {bs : List Nat} {o : Oper} {fr : Fr} {h h1 : H} {sp sp1 : List Lo} {ss ss1 : List Sn} {f1 : FF} (hs : drawStepF X cf nt c ops bs i o (Fr.get fr) h sp ss = some (f1, h1, sp1, ss1)) :
    ∃ fr1, drawStep X cf nt c ops bs i o fr h sp ss = some (fr1, h1, sp1, ss1) ∧ Fr.get fr1 = f1 := by
  unfold drawStepF at hs
  unfold drawStep
  rw [wanted_get] at hs
  simp only [Option.bind_eq_some_iff] at hs
  obtain ⟨b, hb, hs⟩ := hs
  rw [hb]
  simp only [Option.bind_some]
  rw [ev_get]
  have fin : ∀ {v : AV} {r : H × List Lo × List Sn}, ((putF nt (Fr.get fr) o.dst v).map fun f' => (f', r)) = some (f1, h1, sp1, ss1) → ∃ fr1, ((putS nt fr o.dst v).map fun fr' => (fr', r)) = some (fr1, h1, sp1, ss1) ∧ Fr.get fr1 = f1 := fun {v r} hp => by
    rw [put_get] at hp
    simp only [Option.map_map, Option.map_eq_some_iff] at hp ⊢
    obtain ⟨fr', hfr, e⟩ := hp
    simp only [Function.comp, Prod.mk.injEq] at e
    obtain ⟨e1, e2⟩ := e
    exact ⟨fr', ⟨fr', hfr, by rw [e2]⟩, e1⟩
  cases b with
  | false => exact fin hs
  | true =>
    simp only [if_true] at hs ⊢
    by_cases hw : isW X o.op = true
    · rw [if_pos hw] at hs ⊢
      simp only [Option.bind_eq_some_iff, Prod.exists] at hs
      obtain ⟨v, h2, hop, hs⟩ := hs
      split at hs
      · rename_i hsl
        rw [hop, Option.bind_some]
        dsimp only
        rw [if_pos hsl]
        exact fin hs
      · simp at hs
    · rw [if_neg hw] at hs ⊢
      by_cases hc : isCall o.op = true
      · rw [if_pos hc] at hs ⊢
        simp only [Option.bind_eq_some_iff, Prod.exists] at hs
        obtain ⟨g, args, hcal, v, h2, hcall, hs⟩ := hs
        split at hs
        · rename_i hflat
          rw [hcal, Option.bind_some]
          dsimp only
          rw [hcall, Option.bind_some]
          dsimp only
          rw [if_pos hflat]
          exact fin hs
        · simp at hs
      · rw [if_neg hc] at hs ⊢
        by_cases hN : isN o.op = true
        · rw [if_pos hN] at hs ⊢
          simp only [Option.bind_eq_some_iff, Prod.exists] at hs
          obtain ⟨v, he, hop, l, hl, hs⟩ := hs
          rw [hop, Option.bind_some]
          dsimp only
          rw [hl, Option.bind_some]
          exact fin hs
        · rw [if_neg hN] at hs ⊢
          split at hs
          · rename_i t a hopx
            split at hs
            · rename_i b' off hev
              split at hs
              · simp at hs
              · rename_i hty
                split at hs
                · rename_i hcond
                  simp only [Option.bind_eq_some_iff] at hs
                  obtain ⟨l, hl, hs⟩ := hs
                  split at hs
                  · rename_i hsb
                    simp only [Option.bind_eq_some_iff] at hs
                    obtain ⟨v, hv, hs⟩ := hs
                    simp only [hopx, hev, if_neg hty, if_pos hcond, hl, Option.bind_some, hsb, if_true, hv]
                    exact fin hs
                  · simp at hs
                · simp at hs
            · simp at hs
          · rename_i hno
            simp only [Option.bind_eq_some_iff, Prod.exists] at hs
            obtain ⟨v, he, hop, hs⟩ := hs
            split
            · rename_i t a hop'
              exact absurd hop' (hno t a)
            · rw [hop, Option.bind_some]
              exact fin hs

def DrawF (X : Env) (nt c : Nat) (ops : List Oper) (bs : List Nat) (i : Nat) (rest : List Oper) (f : FF) (h : H) (sp : List Lo) (ss : List Sn) (K : FF → H → Prop) : Prop := ∀ fr, Fr.get fr = f → Draw X nt c ops bs i rest fr h sp ss fun fr' h' => K (Fr.get fr') h'
theorem DrawF.nil {c i : Nat} {ops : List Oper} {bs : List Nat} {sp : List Lo} {ss : List Sn} {K : FF → H → Prop} (k : K f h) : DrawF X nt c ops bs i [] f h sp ss K := fun fr e => Draw.nil (by rw [e]; exact k)
theorem DrawF.cons {c i : Nat} {ops : List Oper} {bs : List Nat} {o : Oper} {rest : List Oper} {sp sp1 : List Lo} {ss ss1 : List Sn} {K : FF → H → Prop} {f1 : FF} {h1 : H} (n : Nat) (hs : drawStepF X (callA X (runA X n)) nt c ops bs i o f h sp ss = some (f1, h1, sp1, ss1)) (hr : DrawF X nt c ops bs (i + 1) rest f1 h1 sp1 ss1 K) : DrawF X nt c ops bs i (o :: rest) f h sp ss K := fun fr e => by
  subst e
  obtain ⟨fr1, e1, e2⟩ := drawStepF_eq hs
  exact Draw.cons n e1 (hr fr1 e2)
theorem RunsF.dregion {id : Nat} {ops : Array Oper} (hok : drawOK X ops.toList = true) (hr : DrawF X nt h.nx ops.toList (befs ops.toList) 0 ops.toList f { h with nx := h.nx + ops.toList.length } [] [] (Q .norm)) : RunsF X nt (.region id ops true) f h Q := fun fr e => Runs.region (Reg.draw hok (hr fr e))
theorem RunsF.dreg {id : Nat} {ops : Array Oper} {b : Code} (hok : drawOK X ops.toList = true) (hr : DrawF X nt h.nx ops.toList (befs ops.toList) 0 ops.toList f { h with nx := h.nx + ops.toList.length } [] [] (fun f h => RunsF X nt b f h Q)) : RunsF X nt (.seq (.region id ops true) b) f h Q := RunsF.seq (RunsF.dregion hok hr)

/-- The slots that a call begins with. -/
def FF.of (args : List AV) : FF := fun i => args.getD i undefA
theorem of_get (args : List AV) : Fr.get (Fr.of 0 args .nil) = FF.of args := by
  funext i
  rw [Fr.get_of, Fr.get_nil]
  unfold FF.of
  by_cases hi : i < args.length
  · rw [if_pos (by omega)]; simp
  · rw [if_neg (by omega), List.getD_eq_getElem?_getD, List.getElem?_eq_none (by omega)]; rfl

noncomputable def resultF (X : Env) (f : FF) (h : H) : ResultVar → Option (Bool × List Sc)
  | .tmp t => avEl (f t)
  | .cell a t => match f a with
    | .one (.ptr (some (i, o))) => if (X.T t).ty.isNone then none else (h.load i o (X.T t).size).bind fun l => (mkAV (X.T t).isAgg l).bind avEl
    | _ => none
noncomputable def resultsF (X : Env) (fn : Func) (f : FF) (h : H) : Option AV :=
  (allSome (fn.results.toList.map (resultF X f h))).bind fun l => match l with | [x] => elAV x | l => some (.tup l)
theorem results_get (fn : Func) (fr : Fr) (h : H) : resultsF X fn (Fr.get fr) h = resultsA X fn fr h := by
  unfold resultsF resultsA
  have : resultF X (Fr.get fr) h = resultA X fr h := by funext r; cases r <;> rfl
  rw [this]
  rfl

theorem CallsQ.of_bodyF {g : FuncId} {fn : Func} {c : Code} {args : List AV} {Q : AV → H → Prop} (hE : X.E g = none) (hF : X.F g = some fn) (hb : fn.body = some c) (hlen : args.length ≤ fn.ntmps)
    (hr : RunsF X fn.ntmps c (FF.of args) h fun e f' h1 => (e = .norm ∨ e = .ret) ∧ ∃ v, resultsF X fn f' h1 = some v ∧ Q v h1) : CallsQ X g args h Q :=
  CallsQ.of_body hE hF hb hlen ((hr _ (of_get args)).mono fun e fr' h1 ⟨he, v, hv, q⟩ => ⟨he, v, by rw [← results_get]; exact hv, q⟩)

end
end Go.AM
