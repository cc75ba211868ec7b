/- What a region whose order is drawn needs: an operation looks at its own operands alone; the run in the text's order, step by step. No program here. -/
import Derived.Test.YtlkbcjhemhmfoaaGreatDoorAm7
set_option linter.unusedSimpArgs false
set_option linter.unusedVariables false
namespace Go.AM
open Go

/-! ### An operation looks at its operands alone -/
theorem map_congr_mem {α β : Type} {f g : α → β} : ∀ {l : List α}, (∀ x ∈ l, f x = g x) → l.map f = l.map g
  | [], _ => rfl
  | a :: l, h => by simp only [List.map_cons, h a (by simp)]; rw [map_congr_mem fun x hx => h x (by simp [hx])]

theorem aop_congr {X : Env} {ev ev' : Operand → AV} {h : H} {id : Nat} {op : Op} (he : ∀ x ∈ op.operands.toList, ev x = ev' x) : aop X ev h id op = aop X ev' h id op := by
  cases op with
  | build t ps =>
    have : (ps.toList.map fun (p : Nat × Operand) => (p.1, ev p.2)) = ps.toList.map fun (p : Nat × Operand) => (p.1, ev' p.2) := map_congr_mem fun p hp => by
      rw [he p.2 (by simp only [Op.operands]; exact List.mem_map.2 ⟨p, hp, rfl⟩)]
    simp only [aop]
    rw [this]
  | buildSlice t n ps =>
    have : (ps.toList.map fun (p : Nat × Operand) => (p.1, ev p.2)) = ps.toList.map fun (p : Nat × Operand) => (p.1, ev' p.2) := map_congr_mem fun p hp => by
      rw [he p.2 (by simp only [Op.operands]; exact List.mem_map.2 ⟨p, hp, rfl⟩)]
    simp only [aop]
    rw [this]
  | makeFunc fn first caps =>
    cases fn with
    | func g =>
      have : caps.toList.map ev = caps.toList.map ev' := map_congr_mem fun x hx => he x (by simp only [Op.operands, Array.toList_append, List.mem_append]; exact .inr hx)
      simp only [aop, this]
    | _ => simp [aop]
  | call c =>
    obtain ⟨cal, args, tys⟩ := c
    cases cal with
    | builtin b =>
      have : args.toList.map ev = args.toList.map ev' := map_congr_mem fun x hx => he x (by simp only [Op.operands, Call.operands, Array.toList_append, List.mem_append]; exact .inr hx)
      simp only [aop, this]
    | _ => simp [aop]
  | slice t x lo hi mx =>
    have h1 : ev x = ev' x := he x (by simp [Op.operands])
    have h2 : lo.map ev = lo.map ev' := by cases lo with | none => rfl | some y => simp only [Option.map_some]; rw [he y (by simp [Op.operands])]
    have h3 : hi.map ev = hi.map ev' := by cases hi with | none => rfl | some y => simp only [Option.map_some]; rw [he y (by simp [Op.operands])]
    have h4 : mx.map ev = mx.map ev' := by cases mx with | none => rfl | some y => simp only [Option.map_some]; rw [he y (by simp [Op.operands])]
    simp only [aop, h1, h2, h3, h4]
  | pick c x y =>
    have h1 : ev c = ev' c := he c (by simp [Op.operands])
    have h2 : ev x = ev' x := he x (by simp [Op.operands])
    have h3 : ev y = ev' y := he y (by simp [Op.operands])
    simp only [aop, h1, h2, h3]
  | alloc t => simp [aop]
  | move x | assign x | box _ x | load _ x | nilCheck x | unOp _ _ x | convert _ _ x | fieldAddr _ x _ | field _ x _ | extract x _ =>
    have h1 : ev x = ev' x := he x (by simp [Op.operands])
    simp only [aop, h1]
  | store _ x y | binOp _ _ x y _ | makeSlice _ x y | indexAddr _ x y | index _ x y =>
    have h1 : ev x = ev' x := he x (by simp [Op.operands])
    have h2 : ev y = ev' y := he y (by simp [Op.operands])
    simp only [aop, h1, h2]
  | _ => simp [aop]

theorem callee_congr {ev ev' : Operand → AV} {op : Op} (he : ∀ x ∈ op.operands.toList, ev x = ev' x) : callee ev op = callee ev' op := by
  cases op with
  | call c =>
    obtain ⟨cal, args, tys⟩ := c
    cases cal with
    | value f =>
      have h1 : ev f = ev' f := he f (by simp [Op.operands, Call.operands])
      have h2 : args.toList.map ev = args.toList.map ev' := map_congr_mem fun x hx => he x (by simp only [Op.operands, Call.operands, Array.toList_append, List.mem_append]; exact .inr hx)
      simp only [callee, h1, h2]
    | _ => rfl
  | _ => rfl

section
variable {ρ : Rho}

theorem callee_run2 {P : Program} {ev : Operand → AV} {a : Act} (h : ∀ x, avR ρ (ev x) (a.eval x)) {o : Oper} {g : FuncId} {args : List AV} (hcal : callee ev o.op = some (g, args)) (w : World) :
    ∃ vs : Array Value, LR (avR ρ) args vs.toList ∧ (execOp a.eval o).run P w = (callFunc g vs).run P w := by
  obtain ⟨dst, op, type, pos, after, guard⟩ := o
  dsimp only at hcal
  unfold callee at hcal
  split at hcal
  · rename_i f cargs tys
    split at hcal
    · rename_i g' caps hf
      simp only [Option.some.injEq, Prod.mk.injEq] at hcal
      obtain ⟨rfl, rfl⟩ := hcal
      have hv := h f
      rw [hf] at hv
      obtain ⟨cs, hfun, hcaps⟩ := hv
      refine ⟨cargs.map a.eval ++ cs, ?_, ?_⟩
      · rw [Array.toList_append]
        refine (ev_list h cargs).append ?_
        have : ∀ {l : List (Nat × Nat)} {vs : List Value}, LR (ptrR ρ) l vs → LR (avR ρ) (l.map fun a => AV.one (.ptr (some a))) vs := by
          intro l
          induction l with
          | nil => intro vs h; cases vs <;> exact h
          | cons x l ih => intro vs h; cases vs with
            | nil => exact h.elim
            | cons v vs => exact ⟨h.1, ih h.2⟩
        exact this hcaps
      · simp only [execOp, resolve, hfun, Deferred.ofValue, Sem.run_bind, Sem.run_pure, Result.andThen_ok, invoke]
        simp
    · simp at hcal
  · simp at hcal

/-- A flat value means the same wherever blocks lie. -/
theorem flatSc_rel {ρ ρ' : Rho} {s : Sc} (hf : flatSc s = true) {v : Value} (h : scR ρ s v) : scR ρ' s v := by
  cases s with
  | ptr a => cases a with
    | none => exact h
    | some a => simp [flatSc] at hf
  | sl a n f z => cases a with
    | none => exact h
    | some a => simp [flatSc] at hf
  | fn f c => simp [flatSc] at hf
  | _ => exact h
theorem flatL_rel {ρ ρ' : Rho} : ∀ {l : List Sc} {vs : List Value}, allB flatSc l = true → LR (scR ρ) l vs → LR (scR ρ') l vs
  | [], [], _, _ => trivial
  | s :: l, v :: vs, hf, h => by
    simp only [allB, Bool.and_eq_true] at hf
    exact ⟨flatSc_rel hf.1 h.1, flatL_rel hf.2 h.2⟩
  | [], _ :: _, _, h => h.elim
  | _ :: _, [], _, h => h.elim
theorem flatEl_rel {ρ ρ' : Rho} {e : Bool × List Sc} {v : Value} (hf : allB flatSc e.2 = true) (h : elR ρ e v) : elR ρ' e v := by
  match e, hf, h with
  | (true, l), hf, ⟨cs, e, h⟩ => exact ⟨cs, e, flatL_rel hf h⟩
  | (false, [s]), hf, h =>
    simp only [allB, Bool.and_eq_true] at hf
    exact flatSc_rel (s := s) hf.1 h
theorem flat_rel {ρ ρ' : Rho} {x : AV} (hf : x.flat = true) {v : Value} (h : avR ρ x v) : avR ρ' x v := by
  cases x with
  | one s => exact flatSc_rel (s := s) hf h
  | agg l => obtain ⟨cs, e, h⟩ := h; exact ⟨cs, e, flatL_rel hf h⟩
  | tup l =>
    obtain ⟨vs, e, h⟩ := h
    refine ⟨vs, e, ?_⟩
    have key : ∀ {l : List (Bool × List Sc)} {vs : List Value}, allB (fun e : Bool × List Sc => allB flatSc e.2) l = true → LR (elR ρ) l vs → LR (elR ρ') l vs := by
      intro l
      induction l with
      | nil => intro vs _ h; cases vs <;> exact h
      | cons e l ih =>
        intro vs hf h
        cases vs with
        | nil => exact h.elim
        | cons v vs =>
          simp only [allB, Bool.and_eq_true] at hf
          exact ⟨flatEl_rel hf.1 h.1, ih hf.2 h.2⟩
    exact key hf h
  | top => simp [AV.flat] at hf

end

/-! ### Masks -/
theorem maskH_get (c : Nat) : ∀ (l : List Nat) (h : H) (x : Nat), (maskH h c l).get x = if ∃ j ∈ l, x = c + j then none else h.get x
  | [], h, x => by simp [maskH]
  | j :: l, h, x => by
    rw [maskH, maskH_get c l, H.get_kill]
    by_cases h1 : ∃ k ∈ l, x = c + k
    · obtain ⟨k, hk, e⟩ := h1
      rw [if_pos ⟨k, hk, e⟩, if_pos ⟨k, by simp [hk], e⟩]
    · rw [if_neg h1]
      by_cases h2 : x = c + j
      · rw [if_pos h2, if_pos ⟨j, by simp, h2⟩]
      · rw [if_neg h2, if_neg]
        rintro ⟨k, hk, e⟩
        rcases List.mem_cons.1 hk with rfl | hk
        · exact h2 e
        · exact h1 ⟨k, hk, e⟩
theorem maskH_nx (c : Nat) : ∀ (l : List Nat) (h : H), (maskH h c l).nx = h.nx ∧ (maskH h c l).ro = h.ro
  | [], h => ⟨rfl, rfl⟩
  | j :: l, h => by rw [maskH]; exact maskH_nx c l _
theorem unmaskH_get (h : H) (c : Nat) : ∀ (l : List Nat) (h' : H) (x : Nat), (unmaskH h c l h').get x = if ∃ j ∈ l, x = c + j then h.get x else h'.get x
  | [], h', x => by simp [unmaskH]
  | j :: l, h', x => by
    rw [unmaskH, unmaskH_get h c l]
    by_cases h1 : ∃ k ∈ l, x = c + k
    · obtain ⟨k, hk, e⟩ := h1
      rw [if_pos ⟨k, hk, e⟩, if_pos ⟨k, by simp [hk], e⟩]
    · rw [if_neg h1]
      by_cases h2 : x = c + j
      · rw [if_pos ⟨j, by simp, h2⟩]
        subst h2
        cases hg : h.get (c + j) with
        | none => simp [H.get_kill]
        | some y => simp [H.get_put]
      · have : ¬ ∃ k ∈ j :: l, x = c + k := by
          rintro ⟨k, hk, e⟩
          rcases List.mem_cons.1 hk with rfl | hk
          · exact h2 e
          · exact h1 ⟨k, hk, e⟩
        rw [if_neg this]
        cases hg : h.get (c + j) with
        | none => simp [H.get_kill, h2]
        | some y => simp [H.get_put, h2]
theorem unmaskH_nx (h : H) (c : Nat) : ∀ (l : List Nat) (h' : H), (unmaskH h c l h').nx = h'.nx ∧ (unmaskH h c l h').ro = h'.ro
  | [], h' => ⟨rfl, rfl⟩
  | j :: l, h' => by
    rw [unmaskH]
    refine ⟨(unmaskH_nx h c l _).1.trans ?_, (unmaskH_nx h c l _).2.trans ?_⟩ <;> cases h.get (c + j) <;> rfl

/-! ### The run in the text's order -/
structure DS where
  fr : Fr
  h : H
  sp : List Lo
  ss : List Sn

section
variable {X : Env} {cf : CallF} {nt c : Nat} {ops : List Oper}

def DStep (X : Env) (cf : CallF) (nt c : Nat) (ops : List Oper) (j : Nat) (o : Oper) (S S' : DS) : Prop := drawStep X cf nt c ops (befs ops) j o S.fr S.h S.sp S.ss = some (S'.fr, S'.h, S'.sp, S'.ss)

theorem draw_text : ∀ (rest : List Oper) (i : Nat) (fr : Fr) (h : H) (sp : List Lo) (ss : List Sn) (fr' : Fr) (h' : H), rest = ops.drop i → i ≤ ops.length → drawA X cf nt c ops (befs ops) i rest fr h sp ss = some (fr', h') →
    ∃ S : Nat → DS, S i = ⟨fr, h, sp, ss⟩ ∧ (∀ j o, i ≤ j → ops[j]? = some o → DStep X cf nt c ops j o (S j) (S (j + 1))) ∧ (S ops.length).fr = fr' ∧ (S ops.length).h = h'
  | [], i, fr, h, sp, ss, fr', h', hd, hi, hs => by
    simp only [drawA, Option.some.injEq, Prod.mk.injEq] at hs
    obtain ⟨rfl, rfl⟩ := hs
    have hlen : ops.length ≤ i := by
      have := congrArg List.length hd
      simp at this; omega
    refine ⟨fun _ => ⟨fr, h, sp, ss⟩, rfl, fun j o hj ho => ?_, rfl, rfl⟩
    have := (List.getElem?_eq_some_iff.1 ho).1
    omega
  | o :: rest, i, fr, h, sp, ss, fr', h', hd, hi, hs => by
    simp only [drawA, Option.bind_eq_some_iff, Prod.exists] at hs
    obtain ⟨f1, h1, sp1, ss1, hs1, hs⟩ := hs
    have ho : ops[i]? = some o := by
      have : (ops.drop i)[0]? = some o := by rw [← hd]; rfl
      simpa using this
    have hlt : i < ops.length := (List.getElem?_eq_some_iff.1 ho).1
    obtain ⟨S, hS0, hSs, hf, hh⟩ := draw_text rest (i + 1) f1 h1 sp1 ss1 fr' h' (by rw [← List.drop_drop, ← hd]; rfl) hlt hs
    refine ⟨fun k => if k = i then ⟨fr, h, sp, ss⟩ else S k, by simp, fun j o' hj ho' => ?_, ?_, ?_⟩
    · dsimp only
      rw [if_neg (show ¬ j + 1 = i by omega)]
      by_cases e : j = i
      · subst e
        rw [ho] at ho'
        injection ho' with e
        subst e
        rw [if_pos rfl, hS0]
        exact hs1
      · rw [if_neg e]
        exact hSs j o' (by omega) ho'
    · dsimp only
      rw [if_neg (by omega)]; exact hf
    · dsimp only
      rw [if_neg (by omega)]; exact hh

/-- What a step does to the slots. -/
theorem DStep.slots {j : Nat} {o : Oper} {S S' : DS} (h : DStep X cf nt c ops j o S S') : ∃ v, putS nt S.fr o.dst v = some S'.fr := by
  unfold DStep drawStep at h
  simp only [Option.bind_eq_some_iff] at h
  obtain ⟨b, _, h⟩ := h
  cases b with
  | false =>
    simp only [Bool.false_eq_true, if_false, Option.map_eq_some_iff, Prod.mk.injEq] at h
    obtain ⟨f, hp, rfl, _⟩ := h
    exact ⟨_, hp⟩
  | true =>
    simp only [if_true] at h
    split at h
    · simp only [Option.bind_eq_some_iff, Prod.exists] at h
      obtain ⟨v, h1, _, h⟩ := h
      split at h
      · simp only [Option.map_eq_some_iff, Prod.mk.injEq] at h
        obtain ⟨f, hp, rfl, _⟩ := h
        exact ⟨_, hp⟩
      · simp at h
    · split at h
      · simp only [Option.bind_eq_some_iff, Prod.exists] at h
        obtain ⟨g, args, _, v, h1, _, h⟩ := h
        split at h
        · simp only [Option.map_eq_some_iff, Prod.mk.injEq] at h
          obtain ⟨f, hp, rfl, _⟩ := h
          exact ⟨_, hp⟩
        · simp at h
      · split at h
        · simp only [Option.bind_eq_some_iff, Option.map_eq_some_iff, Prod.exists, Prod.mk.injEq] at h
          obtain ⟨v, he, _, l, _, f, hp, rfl, _⟩ := h
          exact ⟨_, hp⟩
        · split at h
          · split at h
            · split at h
              · simp at h
              · split at h
                · simp only [Option.bind_eq_some_iff] at h
                  obtain ⟨l, _, h⟩ := h
                  split at h
                  · simp only [Option.bind_eq_some_iff, Option.map_eq_some_iff, Prod.mk.injEq] at h
                    obtain ⟨v, _, f, hp, rfl, _⟩ := h
                    exact ⟨_, hp⟩
                  · simp at h
                · simp at h
            · simp at h
          · simp only [Option.bind_eq_some_iff, Option.map_eq_some_iff, Prod.exists, Prod.mk.injEq] at h
            obtain ⟨v, he, _, f, hp, rfl, _⟩ := h
            exact ⟨_, hp⟩

theorem putS_get {nt : Nat} {fr fr' : Fr} {dst : Option Tmp} {v : AV} (hp : putS nt fr dst v = some fr') (t : Tmp) : fr'.get t = if dst = some t then v else fr.get t := by
  unfold putS at hp
  cases dst with
  | none => simp at hp; subst hp; simp
  | some d =>
    dsimp only at hp
    split at hp
    · simp at hp; subst hp
      rw [Fr.get_set]
      by_cases e : t = d
      · subst e; simp
      · have : ¬ (some d = some t) := by simp; exact fun h => e h.symm
        rw [if_neg e, if_neg this]
    · simp at hp


/-- Is operation j one that writes, and is it wanted? -/
def WW (X : Env) (ops : List Oper) (S : Nat → DS) (j : Nat) : Prop := ∃ o, ops[j]? = some o ∧ isW X o.op = true ∧ wantedA ops (S j).fr o = some true

/-- A number of a block that an operation that only makes it has been given. -/
def NId (c : Nat) (ops : List Oper) (x j : Nat) : Prop := x = c + j ∧ ∃ o, ops[j]? = some o ∧ isN o.op = true

theorem mem_maskOf {bi j : Nat} : j ∈ maskOf ops bi ↔ j < ops.length ∧ isN (ops.getD j default).op = true ∧ bi.testBit j = false := by
  unfold maskOf
  rw [List.mem_filter, List.mem_range, Bool.and_eq_true, Bool.not_eq_true']

/-- What a step that does not write leaves of the blocks. -/
theorem DStep.heap {j : Nat} {o : Oper} {S S' : DS} (h : DStep X cf nt c ops j o S S') (hn : ¬ (isW X o.op = true ∧ wantedA ops S.fr o = some true)) :
    S'.h.nx = S.h.nx ∧ S'.h.ro = S.h.ro ∧ (∀ x, (isN o.op = true → x ≠ c + j) → S'.h.get x = S.h.get x) := by
  unfold DStep drawStep at h
  simp only [Option.bind_eq_some_iff] at h
  obtain ⟨b, hb, h⟩ := h
  cases b with
  | false =>
    simp only [Bool.false_eq_true, if_false, Option.map_eq_some_iff, Prod.mk.injEq] at h
    obtain ⟨f, hp, _, hh, _⟩ := h
    rw [← hh]
    exact ⟨rfl, rfl, fun _ _ => rfl⟩
  | true =>
    simp only [if_true] at h
    split at h
    · rename_i hw; exact absurd ⟨hw, hb⟩ hn
    · split at h
      · simp only [Option.bind_eq_some_iff, Prod.exists] at h
        obtain ⟨g, args, _, v, h1, _, h⟩ := h
        split at h
        · simp only [Option.map_eq_some_iff, Prod.mk.injEq] at h
          obtain ⟨f, hp, _, hh, _⟩ := h
          rw [← hh]
          exact ⟨rfl, rfl, fun _ _ => rfl⟩
        · simp at h
      · split at h
        · rename_i hN
          simp only [Option.bind_eq_some_iff, Option.map_eq_some_iff, Prod.exists, Prod.mk.injEq] at h
          obtain ⟨v, he, _, l, _, f, hp, _, hh, _⟩ := h
          rw [← hh]
          refine ⟨rfl, rfl, fun x hx => ?_⟩
          rw [H.get_put, if_neg (hx hN)]
        · split at h
          · split at h
            · split at h
              · simp at h
              · split at h
                · simp only [Option.bind_eq_some_iff] at h
                  obtain ⟨l, _, h⟩ := h
                  split at h
                  · simp only [Option.bind_eq_some_iff, Option.map_eq_some_iff, Prod.mk.injEq] at h
                    obtain ⟨v, _, f, hp, _, hh, _⟩ := h
                    rw [← hh]
                    exact ⟨rfl, rfl, fun _ _ => rfl⟩
                  · simp at h
                · simp at h
            · simp at h
          · simp only [Option.bind_eq_some_iff, Option.map_eq_some_iff, Prod.exists, Prod.mk.injEq] at h
            obtain ⟨v, he, _, f, hp, _, hh, _⟩ := h
            rw [← hh]
            exact ⟨rfl, rfl, fun _ _ => rfl⟩

/-- What a step that writes is. -/
theorem DStep.write {j : Nat} {o : Oper} {S S' : DS} (h : DStep X cf nt c ops j o S S') (hw : isW X o.op = true) (hb : wantedA ops S.fr o = some true) :
    ∃ v h', (if isCall o.op = true then (callee S.fr.ev o.op).bind fun (g, args) => cf g args (maskH S.h c (maskOf ops ((befs ops).getD j 0))) else aop X S.fr.ev (maskH S.h c (maskOf ops ((befs ops).getD j 0))) (c + j) o.op) = some (v, h') ∧
      S'.h = unmaskH S.h c (maskOf ops ((befs ops).getD j 0)) h' ∧ sameLoads ((befs ops).getD j 0) S'.h S.sp = true ∧ putS nt S.fr o.dst v = some S'.fr ∧ S'.sp = S.sp ∧ S'.ss = ⟨j, S.h⟩ :: S.ss := by
  unfold DStep drawStep at h
  simp only [Option.bind_eq_some_iff] at h
  obtain ⟨b, hb', h⟩ := h
  rw [hb] at hb'
  injection hb' with hb'
  subst hb'
  simp only [if_true, hw, Option.bind_eq_some_iff, Prod.exists] at h
  obtain ⟨v, h1, hop, h⟩ := h
  split at h
  · rename_i hsl
    simp only [Option.map_eq_some_iff, Prod.mk.injEq] at h
    obtain ⟨f, hp, rfl, hh, hsp, hss⟩ := h
    exact ⟨v, h1, hop, hh.symm, by rw [← hh]; exact hsl, hp, hsp.symm, hss.symm⟩
  · simp at h

/-- What has been noted stays noted. -/
theorem DStep.notes {j : Nat} {o : Oper} {S S' : DS} (h : DStep X cf nt c ops j o S S') : (∀ s ∈ S.sp, s ∈ S'.sp) ∧ (∀ s ∈ S.ss, s ∈ S'.ss) := by
  unfold DStep drawStep at h
  simp only [Option.bind_eq_some_iff] at h
  obtain ⟨b, _, h⟩ := h
  cases b with
  | false =>
    simp only [Bool.false_eq_true, if_false, Option.map_eq_some_iff, Prod.mk.injEq] at h
    obtain ⟨f, hp, _, _, hsp, hss⟩ := h
    rw [← hsp, ← hss]
    exact ⟨fun _ h => h, fun _ h => h⟩
  | true =>
    simp only [if_true] at h
    split at h
    · simp only [Option.bind_eq_some_iff, Prod.exists] at h
      obtain ⟨v, h1, _, h⟩ := h
      split at h
      · simp only [Option.map_eq_some_iff, Prod.mk.injEq] at h
        obtain ⟨f, hp, _, _, hsp, hss⟩ := h
        rw [← hsp, ← hss]
        exact ⟨fun _ h => h, fun _ h => List.mem_cons_of_mem _ h⟩
      · simp at h
    · split at h
      · simp only [Option.bind_eq_some_iff, Prod.exists] at h
        obtain ⟨g, args, _, v, h1, _, h⟩ := h
        split at h
        · simp only [Option.map_eq_some_iff, Prod.mk.injEq] at h
          obtain ⟨f, hp, _, _, hsp, hss⟩ := h
          rw [← hsp, ← hss]
          exact ⟨fun _ h => h, fun _ h => h⟩
        · simp at h
      · split at h
        · simp only [Option.bind_eq_some_iff, Option.map_eq_some_iff, Prod.exists, Prod.mk.injEq] at h
          obtain ⟨v, he, _, l, _, f, hp, _, _, hsp, hss⟩ := h
          rw [← hsp, ← hss]
          exact ⟨fun _ h => h, fun _ h => h⟩
        · split at h
          · split at h
            · split at h
              · simp at h
              · split at h
                · simp only [Option.bind_eq_some_iff] at h
                  obtain ⟨l, _, h⟩ := h
                  split at h
                  · simp only [Option.bind_eq_some_iff, Option.map_eq_some_iff, Prod.mk.injEq] at h
                    obtain ⟨v, _, f, hp, _, _, hsp, hss⟩ := h
                    rw [← hsp, ← hss]
                    exact ⟨fun _ h => List.mem_cons_of_mem _ h, fun _ h => h⟩
                  · simp at h
                · simp at h
            · simp at h
          · simp only [Option.bind_eq_some_iff, Option.map_eq_some_iff, Prod.exists, Prod.mk.injEq] at h
            obtain ⟨v, he, _, f, hp, _, _, hsp, hss⟩ := h
            rw [← hsp, ← hss]
            exact ⟨fun _ h => h, fun _ h => h⟩

end
end Go.AM
