/- More fuel changes nothing: the exact form. No program here. -/
import Derived.Test.YtlkbcjhemhmfoaaGreatDoorAmG
set_option linter.unusedSimpArgs false
set_option linter.unusedVariables false
namespace Go.AM
open Go

def CFm (cf cf' : CallF) : Prop := ∀ f args h r, cf f args h = some r → cf' f args h = some r

section
variable {X : Env} {cf cf' : CallF} {nt c : Nat} {ops : List Oper}

theorem stepA_mono (hcf : CFm cf cf') {i : Nat} {o : Oper} {fr : Fr} {h : H} {r : Fr × H} (hs : stepA X cf nt c ops i o fr h = some r) : stepA X cf' nt c ops i o fr h = some r := by
  unfold stepA at hs ⊢
  simp only [Option.bind_eq_some_iff] at hs
  obtain ⟨b, hb, hs⟩ := hs
  rw [hb, Option.bind_some]
  cases b with
  | false => exact hs
  | true =>
    simp only [if_true] at hs ⊢
    split at hs
    · rename_i hc
      rw [if_pos hc]
      simp only [Option.bind_eq_some_iff, Prod.exists] at hs ⊢
      obtain ⟨g, args, hcal, v, h1, hcall, hs⟩ := hs
      exact ⟨g, args, hcal, v, h1, hcf _ _ _ _ hcall, hs⟩
    · rename_i hc
      rw [if_neg hc]
      exact hs

theorem seqA_mono (hcf : CFm cf cf') : ∀ (rest : List Oper) (i : Nat) {fr : Fr} {h : H} {r : Fr × H}, seqA X cf nt c ops i rest fr h = some r → seqA X cf' nt c ops i rest fr h = some r
  | [], _, _, _, _, hs => hs
  | o :: rest, i, fr, h, r, hs => by
    simp only [seqA, Option.bind_eq_some_iff, Prod.exists] at hs ⊢
    obtain ⟨f1, h1, hs1, hs⟩ := hs
    exact ⟨f1, h1, stepA_mono hcf hs1, seqA_mono hcf rest (i + 1) hs⟩

theorem drawStep_mono (hcf : CFm cf cf') {bs : List Nat} {i : Nat} {o : Oper} {fr : Fr} {h : H} {sp : List Lo} {ss : List Sn} {r : Fr × H × List Lo × List Sn} (hs : drawStep X cf nt c ops bs i o fr h sp ss = some r) : drawStep X cf' nt c ops bs i o fr h sp ss = some r := by
  unfold drawStep at hs ⊢
  simp only [Option.bind_eq_some_iff] at hs
  obtain ⟨b, hb, hs⟩ := hs
  simp only [hb, Option.bind_some]
  cases b with
  | false => exact hs
  | true =>
    simp only [if_true] at hs ⊢
    by_cases hw : isW X o.op = true
    · rw [if_pos hw] at hs ⊢
      by_cases hc : isCall o.op = true
      · rw [if_pos hc] at hs ⊢
        simp only [Option.bind_eq_some_iff, Prod.exists] at hs ⊢
        obtain ⟨v, h1, ⟨g, args, hcal, hcall⟩, hs⟩ := hs
        exact ⟨v, h1, ⟨g, args, hcal, hcf _ _ _ _ hcall⟩, hs⟩
      · rw [if_neg hc] at hs ⊢
        exact hs
    · rw [if_neg hw] at hs ⊢
      by_cases hc : isCall o.op = true
      · rw [if_pos hc] at hs ⊢
        simp only [Option.bind_eq_some_iff, Prod.exists] at hs ⊢
        obtain ⟨g, args, hcal, v, h1, hcall, hs⟩ := hs
        exact ⟨g, args, hcal, v, h1, hcf _ _ _ _ hcall, hs⟩
      · rw [if_neg hc] at hs ⊢
        exact hs

theorem drawA_mono (hcf : CFm cf cf') {bs : List Nat} : ∀ (rest : List Oper) (i : Nat) {fr : Fr} {h : H} {sp : List Lo} {ss : List Sn} {r : Fr × H}, drawA X cf nt c ops bs i rest fr h sp ss = some r → drawA X cf' nt c ops bs i rest fr h sp ss = some r
  | [], _, _, _, _, _, _, hs => hs
  | o :: rest, i, fr, h, sp, ss, r, hs => by
    simp only [drawA, Option.bind_eq_some_iff, Prod.exists] at hs ⊢
    obtain ⟨f1, h1, sp1, ss1, hs1, hs⟩ := hs
    exact ⟨f1, h1, sp1, ss1, drawStep_mono hcf hs1, drawA_mono hcf rest (i + 1) hs⟩

theorem regionA_mono (hcf : CFm cf cf') {ops : Array Oper} {draw : Bool} {fr : Fr} {h : H} {r : Fr × H} (hs : regionA X cf nt ops draw fr h = some r) : regionA X cf' nt ops draw fr h = some r := by
  unfold regionA at hs ⊢
  dsimp only at hs ⊢
  split at hs
  · rename_i hd
    rw [if_pos hd]
    split at hs
    · rename_i hok
      rw [if_pos hok]
      exact drawA_mono hcf _ 0 hs
    · simp at hs
  · rename_i hd
    rw [if_neg hd]
    exact seqA_mono hcf _ 0 hs

def RunM (X : Env) (n m : Nat) : Prop := ∀ nt c fr h r, runA X n nt c fr h = some r → runA X m nt c fr h = some r

theorem callA_mono {n m : Nat} (hr : RunM X n m) : CFm (callA X (runA X n)) (callA X (runA X m)) := by
  intro f args h r hc
  unfold callA at hc ⊢
  split at hc
  · rename_i g hg
    exact hc
  · rename_i hg
    simp only [Option.bind_eq_some_iff] at hc
    obtain ⟨fn, hfn, c, hbody, hc⟩ := hc
    split at hc
    · rename_i hlen
      simp only [Option.bind_eq_some_iff, Prod.exists] at hc
      obtain ⟨e, fr, h1, hrun, hc⟩ := hc
      simp only [hfn, Option.bind_some, hbody, if_pos hlen, hr _ _ _ _ _ hrun]
      exact hc
    · simp at hc

theorem runA_mono : ∀ n m, n ≤ m → RunM X n m := by
  intro n
  induction n with
  | zero => intro m _ nt c fr h r hr; simp [runA] at hr
  | succ n ih =>
    intro m hm
    obtain ⟨m, rfl⟩ : ∃ k, m = k + 1 := ⟨m - 1, by omega⟩
    have ih := ih m (by omega)
    intro nt c fr h r hr
    cases c with
    | region id ops draw =>
      simp only [runA, Option.map_eq_some_iff] at hr ⊢
      obtain ⟨p, hreg, rfl⟩ := hr
      exact ⟨p, regionA_mono (callA_mono ih) hreg, rfl⟩
    | seq x y =>
      simp only [runA] at hr ⊢
      split at hr
      · rename_i f1 h1 hx
        rw [ih _ _ _ _ _ hx]
        exact ih _ _ _ _ _ hr
      · rename_i hne
        rw [ih _ _ _ _ _ hr]
        obtain ⟨e, f1, h1⟩ := r
        cases e with
        | norm => exact absurd hr (hne f1 h1)
        | exit id => rfl
        | ret => rfl
    | cond b x y =>
      simp only [runA] at hr ⊢
      cases hv : fr.ev b with
      | one s => cases s with
        | bool t => rw [hv] at hr; exact ih _ _ _ _ _ hr
        | _ => rw [hv] at hr; simp at hr
      | _ => rw [hv] at hr; simp at hr
    | block id b =>
      simp only [runA] at hr ⊢
      cases hx : runA X n nt b fr h with
      | none => rw [hx] at hr; simp at hr
      | some p =>
        rw [hx] at hr
        rw [ih _ _ _ _ _ hx]
        exact hr
    | loop b =>
      simp only [runA] at hr ⊢
      split at hr
      · rename_i f1 h1 hx
        rw [ih _ _ _ _ _ hx]
        exact ih _ _ _ _ _ hr
      · rename_i hne
        rw [ih _ _ _ _ _ hr]
        obtain ⟨e, f1, h1⟩ := r
        cases e with
        | norm => exact absurd hr (hne f1 h1)
        | exit id => rfl
        | ret => rfl
    | scope b => simp only [runA] at hr ⊢; exact ih _ _ _ _ _ hr
    | skip | label | exit | ret => simp only [runA] at hr ⊢; exact hr
    | _ => simp [runA] at hr

end

/-! ### Runs and calls, whatever the fuel -/
def Runs (X : Env) (nt : Nat) (c : Code) (fr : Fr) (h : H) (Q : Ex → Fr → H → Prop) : Prop := ∃ n e fr' h', runA X n nt c fr h = some (e, fr', h') ∧ Q e fr' h'
def CallsA (X : Env) (f : FuncId) (args : List AV) (h : H) (v : AV) (h' : H) : Prop := ∃ n, callA X (runA X n) f args h = some (v, h')
def Reg (X : Env) (nt : Nat) (ops : Array Oper) (draw : Bool) (fr : Fr) (h : H) (K : Fr → H → Prop) : Prop := ∃ n fr' h', regionA X (callA X (runA X n)) nt ops draw fr h = some (fr', h') ∧ K fr' h'
def Seq (X : Env) (nt c : Nat) (ops : List Oper) (i : Nat) (rest : List Oper) (fr : Fr) (h : H) (K : Fr → H → Prop) : Prop := ∃ n fr' h', seqA X (callA X (runA X n)) nt c ops i rest fr h = some (fr', h') ∧ K fr' h'
def Draw (X : Env) (nt c : Nat) (ops : List Oper) (bs : List Nat) (i : Nat) (rest : List Oper) (fr : Fr) (h : H) (sp : List Lo) (ss : List Sn) (K : Fr → H → Prop) : Prop := ∃ n fr' h', drawA X (callA X (runA X n)) nt c ops bs i rest fr h sp ss = some (fr', h') ∧ K fr' h'

section
variable {X : Env} {nt : Nat} {fr : Fr} {h : H} {Q : Ex → Fr → H → Prop}

theorem Runs.mono {c : Code} {Q' : Ex → Fr → H → Prop} (hr : Runs X nt c fr h Q) (hq : ∀ e fr' h', Q e fr' h' → Q' e fr' h') : Runs X nt c fr h Q' :=
  let ⟨n, e, f, h', r, q⟩ := hr
  ⟨n, e, f, h', r, hq _ _ _ q⟩
theorem Runs.skip (q : Q .norm fr h) : Runs X nt .skip fr h Q := ⟨1, _, _, _, rfl, q⟩
theorem Runs.label {l : Nat} (q : Q .norm fr h) : Runs X nt (.label l) fr h Q := ⟨1, _, _, _, rfl, q⟩
theorem Runs.exit {id : Nat} (q : Q (.exit id) fr h) : Runs X nt (.exit id) fr h Q := ⟨1, _, _, _, rfl, q⟩
theorem Runs.ret (q : Q .ret fr h) : Runs X nt .ret fr h Q := ⟨1, _, _, _, rfl, q⟩
theorem Runs.region {id : Nat} {ops : Array Oper} {draw : Bool} (hr : Reg X nt ops draw fr h (Q .norm)) : Runs X nt (.region id ops draw) fr h Q := by
  obtain ⟨n, f, h', r, q⟩ := hr
  exact ⟨n + 1, _, _, _, by simp only [runA, r, Option.map_some], q⟩
/-- What comes behind the first of two. -/
def Then (K : Fr → H → Prop) (Q : Ex → Fr → H → Prop) : Ex → Fr → H → Prop
  | .norm, fr, h => K fr h
  | e, fr, h => Q e fr h
theorem Runs.seq {a b : Code} (hr : Runs X nt a fr h (Then (fun fr h => Runs X nt b fr h Q) Q)) : Runs X nt (.seq a b) fr h Q := by
  obtain ⟨n, e, f, h1, r, q⟩ := hr
  cases e with
  | norm =>
    obtain ⟨m, e2, f2, h2, r2, q2⟩ := q
    refine ⟨max n m + 1, e2, f2, h2, ?_, q2⟩
    simp only [runA, runA_mono n (max n m) (by omega) _ _ _ _ _ r, runA_mono m (max n m) (by omega) _ _ _ _ _ r2]
  | exit id => exact ⟨n + 1, _, _, _, by simp only [runA, r], q⟩
  | ret => exact ⟨n + 1, _, _, _, by simp only [runA, r], q⟩
theorem Runs.cond {c : Operand} {a b : Code} {t : Bool} (hc : fr.ev c = .one (.bool t)) (hr : Runs X nt (if t then a else b) fr h Q) : Runs X nt (.cond c a b) fr h Q := by
  obtain ⟨n, e, f, h1, r, q⟩ := hr
  exact ⟨n + 1, _, _, _, by simp only [runA, hc, r], q⟩
def InBlock (id : Nat) (Q : Ex → Fr → H → Prop) : Ex → Fr → H → Prop
  | .exit j, fr, h => if j = id then Q .norm fr h else Q (.exit j) fr h
  | e, fr, h => Q e fr h
theorem Runs.block {id : Nat} {b : Code} (hr : Runs X nt b fr h (InBlock id Q)) : Runs X nt (.block id b) fr h Q := by
  obtain ⟨n, e, f, h1, r, q⟩ := hr
  cases e with
  | norm => exact ⟨n + 1, _, _, _, by simp only [runA, r], q⟩
  | exit j =>
    by_cases hj : j = id
    · simp only [InBlock, hj, if_true] at q
      exact ⟨n + 1, _, _, _, by simp only [runA, r, hj, if_true], q⟩
    · simp only [InBlock, hj, if_false] at q
      exact ⟨n + 1, _, _, _, by simp only [runA, r, hj, if_false], q⟩
  | ret => exact ⟨n + 1, _, _, _, by simp only [runA, r], q⟩
theorem Runs.scope {b : Code} (hr : Runs X nt b fr h Q) : Runs X nt (.scope b) fr h Q := by
  obtain ⟨n, e, f, h1, r, q⟩ := hr
  exact ⟨n + 1, _, _, _, by simp only [runA, r], q⟩
theorem Runs.round {b : Code} (hr : Runs X nt b fr h (Then (fun fr h => Runs X nt (.loop b) fr h Q) Q)) : Runs X nt (.loop b) fr h Q := by
  obtain ⟨n, e, f, h1, r, q⟩ := hr
  cases e with
  | norm =>
    obtain ⟨m, e2, f2, h2, r2, q2⟩ := q
    refine ⟨max n m + 1, e2, f2, h2, ?_, q2⟩
    simp only [runA, runA_mono n (max n m) (by omega) _ _ _ _ _ r, runA_mono m (max n m) (by omega) _ _ _ _ _ r2]
  | exit id => exact ⟨n + 1, _, _, _, by simp only [runA, r], q⟩
  | ret => exact ⟨n + 1, _, _, _, by simp only [runA, r], q⟩
/-- A loop by an invariant with a number that falls. -/
theorem Runs.loop {b : Code} (I : Nat → Fr → H → Prop) (hround : ∀ k fr h, I k fr h → Runs X nt b fr h (Then (fun fr' h' => ∃ k', k' < k ∧ I k' fr' h') Q)) : ∀ k fr h, I k fr h → Runs X nt (.loop b) fr h Q := by
  intro k
  induction k using Nat.strongRecOn with
  | _ k ih =>
    intro fr h hI
    refine Runs.round ((hround k fr h hI).mono fun e fr' h' q => ?_)
    cases e with
    | norm => obtain ⟨k', hlt, hI'⟩ := q; exact ih k' hlt fr' h' hI'
    | exit id => exact q
    | ret => exact q

theorem CallsA.of_body {f : FuncId} {fn : Func} {c : Code} {args : List AV} {v : AV} {h' : H} (hE : X.E f = none) (hF : X.F f = some fn) (hb : fn.body = some c) (hlen : args.length ≤ fn.ntmps)
    (hr : Runs X fn.ntmps c (Fr.of 0 args .nil) h fun e fr' h1 => (e = .norm ∨ e = .ret) ∧ resultsA X fn fr' h1 = some v ∧ h1 = h') : CallsA X f args h v h' := by
  obtain ⟨n, e, fr', h1, r, he, hres, rfl⟩ := hr
  refine ⟨n, ?_⟩
  unfold callA
  rw [hE]
  dsimp only
  rw [hF, Option.bind_some, hb, Option.bind_some, if_pos hlen, r, Option.bind_some]
  dsimp only
  rcases he with rfl | rfl
  · dsimp only; rw [hres]; rfl
  · dsimp only; rw [hres]; rfl

/-- A call and what it leaves. -/
def CallsQ (X : Env) (f : FuncId) (args : List AV) (h : H) (Q : AV → H → Prop) : Prop := ∃ v h', CallsA X f args h v h' ∧ Q v h'
theorem CallsQ.of_body {f : FuncId} {fn : Func} {c : Code} {args : List AV} {Q : AV → H → Prop} (hE : X.E f = none) (hF : X.F f = some fn) (hb : fn.body = some c) (hlen : args.length ≤ fn.ntmps)
    (hr : Runs X fn.ntmps c (Fr.of 0 args .nil) h fun e fr' h1 => (e = .norm ∨ e = .ret) ∧ ∃ v, resultsA X fn fr' h1 = some v ∧ Q v h1) : CallsQ X f args h Q := by
  obtain ⟨n, e, fr', h1, r, he, v, hres, q⟩ := hr
  exact ⟨v, h1, CallsA.of_body hE hF hb hlen ⟨n, e, fr', h1, r, he, hres, rfl⟩, q⟩

theorem Seq.nil {c i : Nat} {ops : List Oper} {K : Fr → H → Prop} (k : K fr h) : Seq X nt c ops i [] fr h K := ⟨0, fr, h, rfl, k⟩
theorem Seq.cons {c i : Nat} {ops : List Oper} {o : Oper} {rest : List Oper} {K : Fr → H → Prop} {fr1 : Fr} {h1 : H} (n : Nat) (hs : stepA X (callA X (runA X n)) nt c ops i o fr h = some (fr1, h1)) (hr : Seq X nt c ops (i + 1) rest fr1 h1 K) : Seq X nt c ops i (o :: rest) fr h K := by
  obtain ⟨m, f, h2, r, k⟩ := hr
  refine ⟨max n m, f, h2, ?_, k⟩
  simp only [seqA]
  rw [stepA_mono (callA_mono (runA_mono n (max n m) (by omega))) hs, Option.bind_some]
  exact seqA_mono (callA_mono (runA_mono m (max n m) (by omega))) rest (i + 1) r
theorem Reg.seq {ops : Array Oper} {K : Fr → H → Prop} (hr : Seq X nt h.nx ops.toList 0 ops.toList fr { h with nx := h.nx + ops.toList.length } K) : Reg X nt ops false fr h K := by
  obtain ⟨n, f, h', r, k⟩ := hr
  refine ⟨n, f, h', ?_, k⟩
  unfold regionA
  dsimp only
  rw [if_neg (by simp)]
  exact r
theorem Draw.nil {c i : Nat} {ops : List Oper} {bs : List Nat} {sp : List Lo} {ss : List Sn} {K : Fr → H → Prop} (k : K fr h) : Draw X nt c ops bs i [] fr h sp ss K := ⟨0, fr, h, rfl, k⟩
theorem Draw.cons {c i : Nat} {ops : List Oper} {bs : List Nat} {o : Oper} {rest : List Oper} {sp sp1 : List Lo} {ss ss1 : List Sn} {K : Fr → H → Prop} {fr1 : Fr} {h1 : H} (n : Nat) (hs : drawStep X (callA X (runA X n)) nt c ops bs i o fr h sp ss = some (fr1, h1, sp1, ss1)) (hr : Draw X nt c ops bs (i + 1) rest fr1 h1 sp1 ss1 K) : Draw X nt c ops bs i (o :: rest) fr h sp ss K := by
  obtain ⟨m, f, h2, r, k⟩ := hr
  refine ⟨max n m, f, h2, ?_, k⟩
  simp only [drawA]
  rw [drawStep_mono (callA_mono (runA_mono n (max n m) (by omega))) hs, Option.bind_some]
  exact drawA_mono (callA_mono (runA_mono m (max n m) (by omega))) rest (i + 1) r
theorem Reg.draw {ops : Array Oper} {K : Fr → H → Prop} (hok : drawOK X ops.toList = true) (hr : Draw X nt h.nx ops.toList (befs ops.toList) 0 ops.toList fr { h with nx := h.nx + ops.toList.length } [] [] K) : Reg X nt ops true fr h K := by
  obtain ⟨n, f, h', r, k⟩ := hr
  refine ⟨n, f, h', ?_, k⟩
  unfold regionA
  dsimp only
  rw [if_pos rfl, if_pos hok]
  exact r

end
end Go.AM
