/- What the machine computes is what every run of the model computes. No program here. -/
import Derived.Test.YtlkbcjhemhmfoaaGreatDoorAmC
set_option linter.unusedSimpArgs false
set_option linter.unusedVariables false
set_option linter.unnecessarySimpa false
namespace Go.AM
open Go

/-- The machine is told the truth of the program. -/
structure EnvOK (P : Program) (X : Env) : Prop where
  mixed : P.follows .mixedOrders = true
  T : X.T = tyOf P
  eq : SEqOK P X
  F : ∀ f fn, X.F f = some fn → P.funcs[f]? = some fn ∧ (fn.name == "runtime.NumGoroutine") = false
  E : ∀ f g args v, X.E f = some g → g args = some v → v.flat = true → (∀ vs w, (callFunc f vs).run P w = .ok (.enter f vs) w) ∧ ∀ (ρ : Rho) (vs : Array Value) w, LR (avR ρ) args vs.toList →
    Calls P f vs w fun e w' => ∃ v', e = .returned v' ∧ avR (fun _ => none) v v' ∧ w'.os = w.os ∧ w'.tape = w.tape ∧ w'.output = w.output ∧ w.heap.size ≤ w'.heap.size ∧ (∀ b, b < w.heap.size → w'.heap[b]? = w.heap[b]?) ∧ ∀ a, w'.frozen? a = w.frozen? a

def Ex.out : Ex → Exit
  | .norm => .normal
  | .exit id => .exit id
  | .ret => .ret

theorem Ran.trans {nt : Nat} {ρ ρ1 ρ2 : Rho} {h h1 h2 : H} {w w1 w2 : World} {f1 f2 : Fr} {a1 a2 : Act} (x : Ran nt h.nx ρ h w f1 h1 a1 w1 ρ1) (y : Ran nt h1.nx ρ1 h1 w1 f2 h2 a2 w2 ρ2) : Ran nt h.nx ρ h w f2 h2 a2 w2 ρ2 where
  fr := y.fr
  rel := y.rel
  stp := by have := y.stp; rw [x.ro] at this; exact x.stp.trans this
  ro := y.ro.trans x.ro
  nx := Nat.le_trans x.nx y.nx
  fresh i hi hii := y.fresh i (x.fresh i hi (hii.imp id fun h => Nat.le_trans y.nx h)) (hii.imp (fun h => Nat.lt_of_lt_of_le h x.nx) id)
  low i hi := (y.low i (by rw [x.ro]; exact hi)).trans (x.low i hi)
  born i hi hn := x.born i hi (y.born i (Nat.lt_of_lt_of_le hi x.nx) hn)

section
variable {P : Program} {X : Env}

def resultM (tmps : Array Value) : ResultVar → Sem Value
  | .tmp t => pure (tmps.getD t undef)
  | .cell x t => do loadVar t (← asAddr (tmps.getD x undef))

theorem resultA_run (hT : X.T = tyOf P) {ρ : Rho} {nt : Nat} {fr : Fr} {a : Act} (hfr : FrR ρ nt fr a) {h : H} {w : World} (hR : Rel ρ h.get h.ro w) {r : ResultVar} {e : Bool × List Sc} (hr : resultA X fr h r = some e) :
    ∃ v, elR ρ e v ∧ (resultM a.tmps r).run P w = .ok v w := by
  cases r with
  | tmp t => exact ⟨_, avEl_rel hr (hfr.v t), by simp [resultM]⟩
  | cell x t =>
    simp only [resultA] at hr
    split at hr
    · rename_i i o hx
      split at hr
      · simp at hr
      · rename_i hty
        simp only [Option.bind_eq_some_iff] at hr
        obtain ⟨l, hl, y, hy, hr⟩ := hr
        rw [hT] at hty hl hy
        have hv := hfr.v x
        rw [hx] at hv
        obtain ⟨v', hv', hrun⟩ := load_run (P := P) (t := t) (fun e => by rw [e] at hty; simp [Ty.isNone] at hty) hR hl hy hv
        refine ⟨v', avEl_rel hr hv', ?_⟩
        simp only [resultM]
        obtain ⟨b, base, room, _, hp⟩ := hv
        rw [hp] at hrun ⊢
        simpa [Instr.loadAt, Instr.sureAddr, asAddr] using hrun
    · simp at hr

theorem results_run (hT : X.T = tyOf P) {ρ : Rho} {nt : Nat} {fr : Fr} {a : Act} (hfr : FrR ρ nt fr a) {h : H} {w : World} (hR : Rel ρ h.get h.ro w) {fn : Func} {v : AV} (hr : resultsA X fn fr h = some v) : ∃ v', avR ρ v v' ∧ (results fn a.tmps).run P w = .ok v' w := by
  unfold resultsA at hr
  simp only [Option.bind_eq_some_iff] at hr
  obtain ⟨l, hl, hr⟩ := hr
  have key : ∀ (rs : List ResultVar) (l : List (Bool × List Sc)), allSome (rs.map (resultA X fr h)) = some l → ∃ vs : List Value, LR (elR ρ) l vs ∧
      (rs.mapM (resultM a.tmps)).run P w = .ok vs w := by
    intro rs
    induction rs with
    | nil => intro l h; simp [allSome] at h; subst h; exact ⟨[], trivial, by simp⟩
    | cons r rs ih =>
      intro l h
      simp only [List.map_cons, allSome, Option.bind_eq_some_iff, Option.map_eq_some_iff] at h
      obtain ⟨e, he, l', hl', rfl⟩ := h
      obtain ⟨v, hv, hrun⟩ := resultA_run hT hfr hR he
      obtain ⟨vs, hvs, hruns⟩ := ih l' hl'
      refine ⟨v :: vs, ⟨hv, hvs⟩, ?_⟩
      rw [List.mapM_cons, Sem.run_bind, hrun, Result.andThen_ok, Sem.run_bind, hruns]
      simp
  obtain ⟨vs, hvs, hrun⟩ := key fn.results.toList l hl
  have hmap : (fn.results.mapM (resultM a.tmps)).run P w = .ok vs.toArray w := by
    rw [Array.mapM_eq_mapM_toList]
    simp only [Sem.run_map, hrun, Result.andThen_ok]
  refine ⟨if h : vs.toArray.size = 1 then vs.toArray[0] else .tuple vs.toArray, ?_, ?_⟩
  · match l, vs, hvs, hr with
    | [x], [v'], hvs, hr => exact elAV_rel hr hvs.1
    | [], [], hvs, hr => simp at hr; subst hr; exact ⟨#[], rfl, trivial⟩
    | x :: y :: l, v1 :: v2 :: vs, hvs, hr =>
      simp at hr; subst hr
      refine ⟨(v1 :: v2 :: vs).toArray, ?_, hvs⟩
      rw [dif_neg (by simp)]
    | [], _ :: _, hvs, _ => exact hvs.elim
    | _ :: _, [], hvs, _ => exact hvs.elim
    | [x], _ :: _ :: _, hvs, _ => exact hvs.2.elim
    | _ :: _ :: _, [_], hvs, _ => exact hvs.2.elim
  · have : results fn a.tmps = (do
        let vs ← fn.results.mapM (resultM a.tmps)
        pure (if h : vs.size = 1 then vs[0] else .tuple vs)) := by
      unfold results
      congr 1
    rw [this, Sem.run_bind, hmap, Result.andThen_ok]
    simp

theorem regionA_run (hX : EnvOK P X) {cf : CallF} (hcf : CallOK P cf) {nt : Nat} {ops : Array Oper} {draw : Bool} {fr fr' : Fr} {h h' : H} (hr : regionA X cf nt ops draw fr h = some (fr', h'))
    {ρ : Rho} {a : Act} {w : World} (hfr : FrR ρ nt fr a) (hR : Rel ρ h.get h.ro w) (hro : h.ro ≤ h.nx) (hfresh : ∀ k, h.nx ≤ k → ρ k = none) {id : Nat} {Q : Exit → Act → World → Prop}
    (hQ : ∀ a' w' ρ', Ran nt h.nx ρ h w fr' h' a' w' ρ' → Q .normal a' w') : (Code.region id ops draw).wp P Q a w := by
  unfold regionA at hr
  dsimp only at hr
  cases draw with
  | true =>
    rw [if_pos rfl] at hr
    split at hr
    · rename_i hok
      exact drawA_run (ops := ops.toList) hX.mixed hcf hX.T hX.eq hok hr hfr hR hro hfresh hQ
    · simp at hr
  | false =>
    rw [if_neg (by simp)] at hr
    refine wp_region ?_
    rw [List.range_eq_range', show ops.size = ops.toList.length by simp]
    refine seqA_run (ops := ops.toList) (c := h.nx) hcf hX.T hX.eq ops.toList 0 fr fr' { h with nx := h.nx + ops.toList.length } h' ρ a w (by simp) hr hfr hR hro (Nat.le_refl _) (fun j _ _ => hfresh _ (by omega)) (fun k hk => hfresh k ?_) fun a' w' ρ' hran => hQ a' w' ρ' ⟨hran.fr, hran.rel, hran.stp, hran.ro, ?_, hran.fresh, hran.low, hran.born⟩
    · have hk : h.nx + ops.toList.length ≤ k := hk
      omega
    · have := hran.nx
      have : h.nx + ops.toList.length ≤ h'.nx := this
      omega

/-- The code of a body. -/
def RunOK (P : Program) (X : Env) (n : Nat) : Prop := ∀ nt c fr h e fr' h', runA X n nt c fr h = some (e, fr', h') → ∀ (ρ : Rho) (a : Act) (w : World), FrR ρ nt fr a → Rel ρ h.get h.ro w → h.ro ≤ h.nx → (∀ k, h.nx ≤ k → ρ k = none) →
  ∀ Q : Exit → Act → World → Prop, (∀ a' w' ρ', Ran nt h.nx ρ h w fr' h' a' w' ρ' → Q e.out a' w') → c.wp P Q a w ∧ ∀ b, c = .loop b → Code.rounds P b Q n a w

theorem callA_ok (hX : EnvOK P X) {n : Nat} (hn : RunOK P X n) : CallOK P (callA X (runA X n)) := by
  intro f args h v h' hc
  unfold callA at hc
  split at hc
  · rename_i g hg
    simp only [Option.bind_eq_some_iff] at hc
    obtain ⟨v0, hv0, hc⟩ := hc
    split at hc
    · rename_i hflat
      simp only [Option.some.injEq, Prod.mk.injEq] at hc
      obtain ⟨rfl, rfl⟩ := hc
      obtain ⟨h1, h2⟩ := hX.E f g args v0 hg hv0 hflat
      refine ⟨h1, fun ρ w vs hR hro hfresh hvs => Calls.mono (h2 ρ vs w hvs) fun e w' ⟨v', he, hv', k1, k2, k3, k4, k5, k6⟩ => ⟨v', ρ, he, flat_rel hflat hv', hR.world k5, ⟨Rho.le_refl ρ, k1, k2, k3, k4, fun b hb _ => k5 b hb, fun _ _ h => h, k6⟩, rfl, Nat.le_refl _, fun _ h _ => h, fun _ _ => rfl, fun _ _ h => h⟩⟩
    · simp at hc
  · simp only [Option.bind_eq_some_iff] at hc
    obtain ⟨fn, hfn, c, hbody, hc⟩ := hc
    split at hc
    · rename_i hlen
      simp only [Option.bind_eq_some_iff, Prod.exists] at hc
      obtain ⟨e, fr, h1, hrun, hc⟩ := hc
      obtain ⟨hF, hname⟩ := hX.F f fn hfn
      have hres : (e = .norm ∨ e = .ret) ∧ resultsA X fn fr h1 = some v ∧ h1 = h' := by
        cases e with
        | norm => simp only [Option.map_eq_some_iff, Prod.mk.injEq] at hc; obtain ⟨_, h1, rfl, rfl⟩ := hc; exact ⟨.inl rfl, h1, rfl⟩
        | ret => simp only [Option.map_eq_some_iff, Prod.mk.injEq] at hc; obtain ⟨_, h1, rfl, rfl⟩ := hc; exact ⟨.inr rfl, h1, rfl⟩
        | exit id => simp at hc
      obtain ⟨he, hres, rfl⟩ := hres
      refine ⟨fun vs w => ?_, fun ρ w vs hR hro hfresh hvs => ?_⟩
      · unfold callFunc
        have : fn.body.isNone = false := by rw [hbody]; rfl
        simp only [Sem.run_bind, Result.andThen_ok]
        have hname' : fn.name ≠ "runtime.NumGoroutine" := by simpa using hname
        have hbn : fn.body ≠ none := by rw [hbody]; simp
        simp [hF, hname', hbn]
      · refine calls_of_wp hF hbody ?_
        have hsz : vs.size = args.length := by rw [← Array.length_toList]; exact hvs.length.symm
        have hfr : FrR ρ fn.ntmps (Fr.of 0 args .nil) { tmps := vs ++ Array.replicate (fn.ntmps - vs.size) undef, defers := [] } := by
          refine ⟨fun i => ?_, by simp; omega, rfl⟩
          have hget : Fr.get (Fr.of 0 args .nil) i = (args[i]?).getD undefA := by
            rw [Fr.get_of, Fr.get_nil]
            by_cases hi : i < args.length
            · rw [if_pos (by omega)]; simp
            · rw [if_neg (by omega), List.getElem?_eq_none (by omega)]; rfl
          rw [hget]
          by_cases hi : i < args.length
          · have hx : args[i]? = some args[i] := List.getElem?_eq_getElem hi
            obtain ⟨y, hy, hr⟩ := hvs.get hx
            rw [hx]
            have hy' : vs[i]? = some y := by simpa using hy
            have : (vs ++ Array.replicate (fn.ntmps - vs.size) undef)[i]? = some y := by
              rw [Array.getElem?_append_left (by omega)]; exact hy'
            simp only [Array.getD_eq_getD_getElem?, this]
            exact hr
          · rw [List.getElem?_eq_none (by omega)]
            have : (vs ++ Array.replicate (fn.ntmps - vs.size) undef).getD i undef = undef := by
              simp only [Array.getD_eq_getD_getElem?]
              rw [Array.getElem?_append_right (by omega), Array.getElem?_replicate]
              split <;> rfl
            simp only [this]
            exact undef_rel ρ
        refine (hn fn.ntmps c (Fr.of 0 args .nil) h e fr h1 hrun ρ _ w hfr hR hro hfresh _ fun a' w' ρ' hran => ?_).1
        obtain ⟨v', hv', hrr⟩ := results_run hX.T hran.fr hran.rel hres
        have : bodyPost P fn (fun e w' => ∃ v' ρ', e = .returned v' ∧ avR ρ' v v' ∧ Rel ρ' h1.get h1.ro w' ∧ Stp ρ ρ' h.get h1.get h.ro w w' ∧ h1.ro = h.ro ∧ h.nx ≤ h1.nx ∧ (∀ i, ρ i = none → (i < h.nx ∨ h1.nx ≤ i) → ρ' i = none) ∧ (∀ i, i < h.ro → h1.get i = h.get i) ∧ (∀ i, i < h.nx → h1.get i ≠ none → h.get i ≠ none)) .ret a' w' :=
          ⟨hran.fr.df, v', hrr, v', ρ', rfl, hv', hran.rel, hran.stp, hran.ro, hran.nx, hran.fresh, hran.low, hran.born⟩
        rcases he with rfl | rfl
        · exact this
        · exact this
    · simp at hc

theorem runA_ok (hX : EnvOK P X) : ∀ n, RunOK P X n := by
  intro n
  induction n with
  | zero => intro nt c fr h e fr' h' hr; simp [runA] at hr
  | succ n ih =>
    have hcf := callA_ok hX ih
    intro nt c fr h e fr' h' hr ρ a w hfr hR hro hfresh Q hQ
    have hrefl : Ran nt h.nx ρ h w fr h a w ρ := ⟨hfr, hR, Stp.refl .., rfl, Nat.le_refl _, fun _ h _ => h, fun _ _ => rfl, fun _ _ h => h⟩
    cases c with
    | skip =>
      simp only [runA, Option.some.injEq, Prod.mk.injEq] at hr
      obtain ⟨rfl, rfl, rfl⟩ := hr
      exact ⟨wp_skip (hQ a w ρ hrefl), fun b hb => by cases hb⟩
    | label l =>
      simp only [runA, Option.some.injEq, Prod.mk.injEq] at hr
      obtain ⟨rfl, rfl, rfl⟩ := hr
      exact ⟨wp_label (hQ a w ρ hrefl), fun b hb => by cases hb⟩
    | exit id =>
      simp only [runA, Option.some.injEq, Prod.mk.injEq] at hr
      obtain ⟨rfl, rfl, rfl⟩ := hr
      exact ⟨wp_exit (hQ a w ρ hrefl), fun b hb => by cases hb⟩
    | ret =>
      simp only [runA, Option.some.injEq, Prod.mk.injEq] at hr
      obtain ⟨rfl, rfl, rfl⟩ := hr
      exact ⟨wp_ret (hQ a w ρ hrefl), fun b hb => by cases hb⟩
    | region id ops draw =>
      simp only [runA, Option.map_eq_some_iff, Prod.mk.injEq, Prod.exists] at hr
      obtain ⟨f1, h1, hreg, rfl, rfl, rfl⟩ := hr
      exact ⟨regionA_run hX hcf hreg hfr hR hro hfresh hQ, fun b hb => by cases hb⟩
    | seq x y =>
      refine ⟨wp_seq ?_, fun b hb => by cases hb⟩
      simp only [runA] at hr
      split at hr
      · rename_i f1 h1 hx
        refine (ih nt x fr h _ f1 h1 hx ρ a w hfr hR hro hfresh _ fun a1 w1 ρ1 hran => ?_).1
        refine (ih nt y f1 h1 _ fr' h' hr ρ1 a1 w1 hran.fr hran.rel (by have := hran.ro; have := hran.nx; omega) (fun k hk => hran.fresh k (hfresh k (Nat.le_trans hran.nx hk)) (.inr hk)) _ fun a2 w2 ρ2 hran2 => ?_).1
        exact hQ a2 w2 ρ2 (hran.trans hran2)
      · rename_i hne
        refine (ih nt x fr h _ fr' h' hr ρ a w hfr hR hro hfresh _ fun a1 w1 ρ1 hran => ?_).1
        have := hQ a1 w1 ρ1 hran
        cases e with
        | norm => exact absurd hr (hne fr' h')
        | exit id => exact this
        | ret => exact this
    | cond b x y =>
      refine ⟨?_, fun b hb => by cases hb⟩
      simp only [runA] at hr
      split at hr
      · rename_i t ht
        have hb := hfr.ev b
        rw [ht] at hb
        exact wp_cond (t := t) hb (ih nt _ fr h _ fr' h' hr ρ a w hfr hR hro hfresh _ hQ).1
      · simp at hr
    | block id b =>
      refine ⟨wp_block ?_, fun b hb => by cases hb⟩
      simp only [runA] at hr
      split at hr
      · rename_i j f1 h1 hx
        refine (ih nt b fr h _ f1 h1 hx ρ a w hfr hR hro hfresh _ fun a1 w1 ρ1 hran => ?_).1
        show if j = id then Q .normal a1 w1 else Q (.exit j) a1 w1
        split at hr
        · rename_i hj
          rw [if_pos hj]
          simp only [Option.some.injEq, Prod.mk.injEq] at hr
          obtain ⟨rfl, rfl, rfl⟩ := hr
          exact hQ a1 w1 ρ1 hran
        · rename_i hj
          rw [if_neg hj]
          simp only [Option.some.injEq, Prod.mk.injEq] at hr
          obtain ⟨rfl, rfl, rfl⟩ := hr
          exact hQ a1 w1 ρ1 hran
      · rename_i hne
        refine (ih nt b fr h _ fr' h' hr ρ a w hfr hR hro hfresh _ fun a1 w1 ρ1 hran => ?_).1
        have := hQ a1 w1 ρ1 hran
        cases e with
        | norm => exact this
        | exit id => exact absurd hr (hne _ fr' h')
        | ret => exact this
    | loop b =>
      have hrounds : Code.rounds P b Q (n + 1) a w := by
        rw [rounds_succ]
        simp only [runA] at hr
        split at hr
        · rename_i f1 h1 hx
          refine (ih nt b fr h _ f1 h1 hx ρ a w hfr hR hro hfresh _ fun a1 w1 ρ1 hran => ?_).1
          refine (ih nt (.loop b) f1 h1 _ fr' h' hr ρ1 a1 w1 hran.fr hran.rel (by have := hran.ro; have := hran.nx; omega) (fun k hk => hran.fresh k (hfresh k (Nat.le_trans hran.nx hk)) (.inr hk)) Q fun a2 w2 ρ2 hran2 => ?_).2 b rfl
          exact hQ a2 w2 ρ2 (hran.trans hran2)
        · rename_i hne
          refine (ih nt b fr h _ fr' h' hr ρ a w hfr hR hro hfresh _ fun a1 w1 ρ1 hran => ?_).1
          have := hQ a1 w1 ρ1 hran
          cases e with
          | norm => exact absurd hr (hne fr' h')
          | exit id => exact this
          | ret => exact this
      exact ⟨wp_loop_rounds _ hrounds, fun b' hb => by injection hb with hb; subst hb; exact hrounds⟩
    | scope b =>
      refine ⟨wp_scope_straight ?_, fun b hb => by cases hb⟩
      simp only [runA] at hr
      refine (ih nt b fr h _ fr' h' hr ρ a w hfr hR hro hfresh _ fun a1 w1 ρ1 hran => ?_).1
      have := hQ a1 w1 ρ1 hran
      cases e with
      | norm => exact this
      | exit id => exact this
      | ret => exact this
    | _ => simp [runA] at hr

/-- A call of a function of the program. -/
theorem call_ok (hX : EnvOK P X) (n : Nat) : CallOK P (callA X (runA X n)) := callA_ok hX (runA_ok hX n)

end
end Go.AM
