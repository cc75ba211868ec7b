/- Steps that read and write blocks, and steps that call. No program here. -/
import Derived.Test.YtlkbcjhemhmfoaaGreatDoorAmN
set_option linter.unusedSimpArgs false
set_option linter.unusedVariables false
namespace Go.AM
open Go

section
variable {X : Env} {nt c i : Nat} {ops rest : List Oper} {o : Oper} {f f1 : FF} {h h1 : H} {K : FF → H → Prop}

/-- A load that is wanted. -/
theorem SeqF.load {t : TypeId} {a : Operand} {b off : Nat} {l : List Sc} {v : AV} (hw : wantedF ops f o = some true) (ho : o.op = .load t a) (ha : f.ev a = .one (.ptr (some (b, off)))) (hty : (X.T t).ty.isNone = false) (hl : h.load b off (X.T t).size = some l)
    (hv : mkAV (X.T t).isAgg l = some v) (hp : putF nt f o.dst v = some f1) (hr : SeqF X nt c ops (i + 1) rest f1 h K) : SeqF X nt c ops i (o :: rest) f h K := by
  refine SeqF.cons 0 (f1 := f1) (h1 := h) ?_ hr
  unfold stepF
  rw [hw, Option.bind_some, if_pos rfl, if_neg (by rw [ho]; simp [isCall]), ho]
  simp only [aop, ha, hty, Bool.false_eq_true, if_false, hl, Option.bind_some, hv, Option.map_some, hp]

/-- A store that is wanted. -/
theorem SeqF.store {t : TypeId} {a x : Operand} {b off : Nat} {l : List Sc} (hw : wantedF ops f o = some true) (ho : o.op = .store t a x) (ha : f.ev a = .one (.ptr (some (b, off)))) (hty : (X.T t).ty.isNone = false) (hx : (f.ev x).cells = some l) (hlen : l.length = (X.T t).size)
    (hl : h.store b off l = some h1) (hp : putF nt f o.dst undefA = some f1) (hr : SeqF X nt c ops (i + 1) rest f1 h1 K) : SeqF X nt c ops i (o :: rest) f h K := by
  refine SeqF.cons 0 (f1 := f1) (h1 := h1) ?_ hr
  unfold stepF
  rw [hw, Option.bind_some, if_pos rfl, if_neg (by rw [ho]; simp [isCall]), ho]
  simp only [aop, ha, hty, Bool.false_eq_true, if_false, hx, hlen, if_true, hl, Option.bind_some, Option.map_some, hp]

/-- A call that is wanted. -/
theorem SeqF.call {g : FuncId} {args : List AV} {v : AV} (hw : wantedF ops f o = some true) (hc : isCall o.op = true) (hcal : callee f.ev o.op = some (g, args)) (hcall : CallsA X g args h v h1) (hp : putF nt f o.dst v = some f1) (hr : SeqF X nt c ops (i + 1) rest f1 h1 K) : SeqF X nt c ops i (o :: rest) f h K := by
  obtain ⟨n, e⟩ := hcall
  refine SeqF.cons n (f1 := f1) (h1 := h1) ?_ hr
  unfold stepF
  rw [hw, Option.bind_some, if_pos rfl, if_pos hc, hcal, Option.bind_some]
  dsimp only
  rw [e, Option.bind_some]
  dsimp only
  rw [hp]; rfl

theorem SeqF.callQ {g : FuncId} {args : List AV} {Q : AV → H → Prop} {d : Tmp} (hw : wantedF ops f o = some true) (hc : isCall o.op = true) (hcal : callee f.ev o.op = some (g, args)) (hq : CallsQ X g args h Q) (hd : o.dst = some d) (hlt : d < nt)
    (hr : ∀ v h1, Q v h1 → SeqF X nt c ops (i + 1) rest (f.set d v) h1 K) : SeqF X nt c ops i (o :: rest) f h K := by
  obtain ⟨v, h1, hca, q⟩ := hq
  refine SeqF.call hw hc hcal hca ?_ (hr v h1 q)
  unfold putF
  rw [hd]
  dsimp only
  rw [if_pos hlt]

/-- The first of two by what is needed of it. -/
theorem RunsF.cut {a b : Code} {Q : Ex → FF → H → Prop} (R : FF → H → Prop) (hr : RunsF X nt a f h fun e f' h' => e = .norm ∧ R f' h') (hb : ∀ f' h', R f' h' → RunsF X nt b f' h' Q) : RunsF X nt (.seq a b) f h Q :=
  RunsF.seq (hr.mono fun e f' h' ⟨he, r⟩ => by subst he; exact hb f' h' r)

/-! ### What blocks hold -/
theorem H.load_of {h : H} {b off n : Nat} {bl : List Sc} (hb : h.get b = some bl) (hle : off + n ≤ bl.length) : h.load b off n = some ((bl.drop off).take n) := by
  unfold H.load; rw [hb, Option.bind_some, if_pos hle]
theorem H.store_of {h : H} {b off : Nat} {bl l : List Sc} (hro : h.ro ≤ b) (hb : h.get b = some bl) (hle : off + l.length ≤ bl.length) : h.store b off l = some (h.put b (bl.take off ++ l ++ bl.drop (off + l.length))) := by
  unfold H.store; rw [if_pos hro, hb, Option.bind_some, if_pos hle]
/-- A heap with another next number. -/
theorem H.get_nx (t : Tr (List Sc)) (n r i : Nat) : (H.mk t n r).get i = t.get i := rfl
theorem H.get_tr (h : H) (i : Nat) : h.tr.get i = h.get i := rfl

end
end Go.AM
