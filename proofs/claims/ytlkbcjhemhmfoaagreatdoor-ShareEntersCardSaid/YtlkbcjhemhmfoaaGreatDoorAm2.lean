/- Each operation of the machine that leaves the blocks alone is what the model does. No program here. -/
import Derived.Test.YtlkbcjhemhmfoaaGreatDoorAm1
set_option linter.unusedSimpArgs false
set_option linter.unusedVariables false
namespace Go.AM
open Go

theorem add_plain (b x j : Nat) : (⟨b, x, none⟩ : Addr).add j = ⟨b, x + j, none⟩ := by unfold Addr.add; split <;> simp_all

/-! ### Types -/
section
variable {P : Program} {t : TypeId}

theorem tyOf_some (h : (tyOf P t).ty ≠ .none ∨ 0 < (tyOf P t).size) :
    ∃ i z d, P.info? t = some i ∧ P.underlying t = some d ∧ i.zero = some z ∧ constCells z = some (tyOf P t).zero ∧ (tyOf P t).size = i.size ∧ (tyOf P t).bytes = i.bytes ∧ (tyOf P t).ty = descTy d := by
  unfold tyOf at *
  cases hi : P.info? t with
  | none => rw [hi] at h; simp at h
  | some i =>
    rw [hi] at h
    cases hd : P.underlying t with
    | none => rw [hd] at h; simp at h
    | some d =>
      rw [hd] at h
      simp only at h ⊢
      cases hz : i.zero.bind constCells with
      | none => rw [hz] at h; simp at h
      | some z =>
        simp only [Option.bind_eq_some_iff] at hz
        obtain ⟨zv, hzv, hc⟩ := hz
        exact ⟨i, zv, d, rfl, rfl, hzv, hc, rfl, rfl, rfl⟩

theorem run_sizeOf' (h : (tyOf P t).ty ≠ .none ∨ 0 < (tyOf P t).size) (w : World) : (sizeOf t).run P w = .ok (tyOf P t).size w := by
  obtain ⟨i, z, d, hi, _, _, _, hs, _⟩ := tyOf_some h
  simp [sizeOf, typeInfo, hi, hs]
theorem run_typeInfo' {i : TypeInfo} (h : P.info? t = some i) (w : World) : (typeInfo t).run P w = .ok i w := by simp [typeInfo, h]
theorem run_underlying' {d : TypeDesc} (h : P.underlying t = some d) (w : World) : (underlying t).run P w = .ok d w := by simp [underlying, h]
theorem tyOf_desc {y : Ty} (h : (tyOf P t).ty = y) (hy : y ≠ .none) : ∃ d, P.underlying t = some d ∧ descTy d = y := by
  obtain ⟨i, z, d, _, hd, _, _, _, _, ht⟩ := tyOf_some (P := P) (t := t) (.inl (by rw [h]; exact hy))
  exact ⟨d, hd, by rw [← ht, h]⟩
theorem under_int {k : IntKind} (h : (tyOf P t).ty = .int k) : P.underlying t = some (.int k) := by
  obtain ⟨d, hd, e⟩ := tyOf_desc h (by simp)
  cases d <;> simp [descTy] at e
  subst e; exact hd
theorem under_bool (h : (tyOf P t).ty = .bool) : P.underlying t = some .bool := by
  obtain ⟨d, hd, e⟩ := tyOf_desc h (by simp)
  cases d <;> simp [descTy] at e
  exact hd
theorem under_str (h : (tyOf P t).ty = .str) : P.underlying t = some .string := by
  obtain ⟨d, hd, e⟩ := tyOf_desc h (by simp)
  cases d <;> simp [descTy] at e
  exact hd
theorem under_slice {e : TypeId} (h : (tyOf P t).ty = .slice e) : P.underlying t = some (.slice e) := by
  obtain ⟨d, hd, e⟩ := tyOf_desc h (by simp)
  cases d <;> simp [descTy] at e
  subst e; exact hd
theorem under_array {n : Nat} {e : TypeId} (h : (tyOf P t).ty = .array n e) : P.underlying t = some (.array n e) := by
  obtain ⟨d, hd, e⟩ := tyOf_desc h (by simp)
  cases d <;> simp [descTy] at e
  obtain ⟨rfl, rfl⟩ := e; exact hd
theorem under_struct {fs : List (Nat × TypeId)} (h : (tyOf P t).ty = .struct fs) : ∃ fields : Array Field, P.underlying t = some (.struct fields) ∧ fs = fields.toList.map fun f => (f.offset, f.type) := by
  obtain ⟨d, hd, e⟩ := tyOf_desc h (by simp)
  cases d <;> simp [descTy] at e
  exact ⟨_, hd, e.symm⟩
theorem under_iface (h : (tyOf P t).ty = .iface) : ∃ ms, P.underlying t = some (.interface ms) := by
  obtain ⟨d, hd, e⟩ := tyOf_desc h (by simp)
  cases d <;> simp [descTy] at e
  exact ⟨_, hd⟩
theorem run_isAgg' (h : (tyOf P t).ty ≠ .none) (w : World) : (isAgg t).run P w = .ok (tyOf P t).isAgg w := by
  obtain ⟨i, z, d, _, hd, _, _, _, _, ht⟩ := tyOf_some (P := P) (t := t) (.inl h)
  unfold isAgg TyI.isAgg
  simp only [Sem.run_bind, run_underlying' hd, Result.andThen_ok, ht]
  cases d <;> simp [descTy]
end

/-! ### What an operation does -/
def Did (ρ : Rho) (h : H) (id : Nat) (w : World) (v : AV) (h' : H) (r : Result Next) : Prop :=
  ∃ v' w' ρ', (r = .ok (.value v') w' ∨ (r = .ok .skip w' ∧ v' = undef)) ∧ avR ρ' v v' ∧ Rel ρ' h'.get h'.ro w' ∧ Stp ρ ρ' h.get h'.get h.ro w w' ∧ h'.ro = h.ro ∧ h'.nx = h.nx ∧
    (∀ i, ρ i = none → i ≠ id → ρ' i = none)

theorem Did.pure {ρ : Rho} {h : H} {id : Nat} {w : World} {v : AV} {v' : Value} (hR : Rel ρ h.get h.ro w) (hv : avR ρ v v') {r : Result Next} (hr : r = .ok (.value v') w) : Did ρ h id w v h r :=
  ⟨v', w, ρ, .inl hr, hv, hR, Stp.refl .., rfl, rfl, fun _ h _ => h⟩

theorem avR_one {ρ : Rho} {s : Sc} {v : Value} : avR ρ (.one s) v = scR ρ s v := rfl

section
variable {ρ : Rho}

theorem arith_run (P : Program) {op : BinOp} {k k' : IntKind} {a b : Int} {s : Sc} (h : arith op k a b = some s) (hk : k = k' ∨ isShift op = true) (t : TypeId) (w : World) :
    ∃ v, scR ρ s v ∧ (binOp op t (.int k a) (.int k' b)).run P w = .ok v w := by
  cases op with
  | quo | rem =>
    simp only [isShift] at hk
    simp at hk
    subst hk
    simp only [arith] at h
    split at h
    · simp at h
    · simp at h; subst h
      refine ⟨_, rfl, ?_⟩
      simp_all [binOp, Op.intDiv]
  | shl | shr =>
    simp only [arith] at h
    split at h
    · simp at h; subst h
      refine ⟨_, rfl, ?_⟩
      have : ¬ b < 0 := by omega
      simp [binOp, Op.shift, this]
    · simp at h
  | and | or | xor | andNot => simp [arith] at h
  | _ =>
    simp only [isShift] at hk
    simp at hk
    subst hk
    simp [arith] at h
    subst h
    exact ⟨_, rfl, by simp [binOp, Op.intArith, Op.intCmp]⟩

/-- What is asked of structs that are compared cell by cell. -/
def SEqOK (P : Program) (X : Env) : Prop := ∀ t n, X.sEq t = some n → P.eqGuardType P.depth t = false ∧
  ∀ xs ys : List Int, xs.length = n → ys.length = n → ∀ w, (Op.equal t (.agg (xs.map (Value.int .i64)).toArray) (.agg (ys.map (Value.int .i64)).toArray)).run P w = .ok (decide (xs = ys)) w

theorem intsOf_rel : ∀ {l : List Sc} {xs : List Int} {cs : List Value}, intsOf l = some xs → LR (scR ρ) l cs → cs = xs.map (Value.int .i64)
  | [], xs, [], h, _ => by simp [intsOf] at h; subst h; rfl
  | s :: l, xs, v :: cs, h, hr => by
    cases s with
    | int k n =>
      cases k <;> simp only [intsOf] at h <;> simp at h
      obtain ⟨ys, hy, rfl⟩ := h
      have h1 : v = .int .i64 n := hr.1
      have h2 := intsOf_rel hy hr.2
      simp [h1, h2]
    | _ => simp [intsOf] at h
  | [], _, _ :: _, _, hr => hr.elim
  | _ :: _, _, [], _, hr => hr.elim

theorem equal_bool {P : Program} {t : TypeId} (h : P.underlying t = some .bool) (a b : Bool) (w : World) : (Op.equal t (.bool a) (.bool b)).run P w = .ok (a == b) w := by
  have key : ∀ d, (Op.equalIn (d + 1) t (.bool a) (.bool b)).run P w = .ok (a == b) w := fun d => by
    rw [Op.equalIn]
    simp [run_underlying' h]
  exact key 9999
theorem equal_slice {P : Program} {t e : TypeId} (h : P.underlying t = some (.slice e)) (a : Option Addr) (n c : Nat) (w : World) : (Op.equal t (.slice a n c) (.slice none 0 0)).run P w = .ok a.isNone w := by
  have key : ∀ d, (Op.equalIn (d + 1) t (.slice a n c) (.slice none 0 0)).run P w = .ok a.isNone w := fun d => by
    rw [Op.equalIn]
    cases a <;> simp [run_underlying' h]
  exact key 9999
theorem equal_iface {P : Program} {t : TypeId} {ms : Array (String × TypeId)} (h : P.underlying t = some (.interface ms)) (u : TypeId) (x : Value) (w : World) : (Op.equal t (.iface u x) .nilIface).run P w = .ok false w := by
  have key : ∀ d, (Op.equalIn (d + 1) t (.iface u x) .nilIface).run P w = .ok false w := fun d => by
    rw [Op.equalIn]
    simp [run_underlying' h]
  exact key 9999

theorem abin_run {P : Program} {X : Env} (hT : X.T = tyOf P) (hS : SEqOK P X) {op : BinOp} {t : TypeId} {x y : AV} {s : Sc} (h : abin X op t x y = some s) {vx vy : Value} (hx : avR ρ x vx) (hy : avR ρ y vy) (ox oy : Operand) (w : World) :
    ∃ v, scR ρ s v ∧ (do eqGuard op t ox oy vx vy; binOp op t vx vy : Sem Value).run P w = .ok v w := by
  unfold abin at h
  split at h
  · rename_i k a k' b
    have e1 : vx = .int k a := hx
    have e2 : vy = .int k' b := hy
    subst e1 e2
    split at h
    · obtain ⟨v, hv, hr⟩ := arith_run (ρ := ρ) P h ‹_› t w
      refine ⟨v, hv, ?_⟩
      cases op <;> simp [eqGuard, hr]
    · simp at h
  · rename_i a b
    have e1 : vx = .bool a := hx
    have e2 : vy = .bool b := hy
    subst e1 e2
    split at h
    · rename_i ht
      rw [hT] at ht
      simp at h; subst h
      refine ⟨_, rfl, ?_⟩
      simp [eqGuard, binOp, equal_bool (under_bool ht)]
    · rename_i ht
      rw [hT] at ht
      simp at h; subst h
      refine ⟨_, rfl, ?_⟩
      simp [eqGuard, binOp, equal_bool (under_bool ht)]
    · simp at h
  · rename_i a b
    have e1 : vx = .string a := hx
    have e2 : vy = .string b := hy
    subst e1 e2
    split at h
    · split at h
      · rename_i hlt
        simp at h; subst h
        refine ⟨_, rfl, ?_⟩
        have : ¬ ((a.size + b.size : Nat) : Int) > IntKind.i64.max := by
          have : IntKind.i64.max = 9223372036854775807 := rfl
          rw [this]; omega
        simp only [eqGuard, binOp, Op.stringOp, Sem.run_bind, Sem.run_pure, Result.andThen_ok, Bool.false_eq_true, Bool.not_false, if_true, if_neg this]
      · simp at h
    · simp at h; subst h
      exact ⟨_, rfl, by simp [eqGuard, binOp, Op.stringOp]⟩
    · simp at h; subst h
      exact ⟨_, rfl, by simp [eqGuard, binOp, Op.stringOp]⟩
    · simp at h
  · rename_i a n f z n' f' z'
    have e2 : vy = .slice none 0 0 := hy.2
    subst e2
    have e1 : ∃ a' n c, vx = .slice a' n c ∧ a'.isNone = a.isNone := by
      cases a with
      | none => obtain ⟨_, rfl⟩ := hx; exact ⟨_, _, _, rfl, rfl⟩
      | some a => obtain ⟨b, base, room, c, ad, e, rfl, _⟩ := hx; exact ⟨_, _, _, rfl, rfl⟩
    obtain ⟨a', n2, c, rfl, hn⟩ := e1
    split at h
    · rename_i e ht
      rw [hT] at ht
      simp at h; subst h
      refine ⟨_, rfl, ?_⟩
      rcases a with _ | a <;> rcases a' with _ | a' <;> simp at hn <;> simp [eqGuard, binOp, equal_slice (under_slice ht)]
    · rename_i e ht
      rw [hT] at ht
      simp at h; subst h
      refine ⟨_, rfl, ?_⟩
      rcases a with _ | a <;> rcases a' with _ | a' <;> simp at hn <;> simp [eqGuard, binOp, equal_slice (under_slice ht)]
    · simp at h
  · obtain ⟨tx, xx, rfl⟩ := hx
    have e2 : vy = .nilIface := hy
    subst e2
    split at h
    · rename_i ht
      rw [hT] at ht
      obtain ⟨ms, hu⟩ := under_iface ht
      simp at h; subst h
      refine ⟨_, rfl, ?_⟩
      simp [eqGuard, binOp, equal_iface hu]
    · rename_i ht
      rw [hT] at ht
      obtain ⟨ms, hu⟩ := under_iface ht
      simp at h; subst h
      refine ⟨_, rfl, ?_⟩
      simp [eqGuard, binOp, equal_iface hu]
    · simp at h
  · rename_i a b
    obtain ⟨cs, rfl, hc⟩ := hx
    obtain ⟨ds, rfl, hd⟩ := hy
    split at h
    · rename_i n xs ys hs hi1 hi2
      split at h
      · rename_i hl
        obtain ⟨hg, he⟩ := hS t n hs
        have e1 := intsOf_rel hi1 hc
        have e2 := intsOf_rel hi2 hd
        have e1' : cs = (xs.map (Value.int .i64)).toArray := by rw [← e1]
        have e2' : ds = (ys.map (Value.int .i64)).toArray := by rw [← e2]
        subst e1' e2'
        have hq := he xs ys hl.1 hl.2 w
        split at h
        · simp at h; subst h
          refine ⟨_, rfl, ?_⟩
          simp only [eqGuard, binOp, Sem.run_bind, Sem.run_pure, run_program, Result.andThen_ok, hg]
          simp [hq, hg]
        · simp at h; subst h
          refine ⟨_, rfl, ?_⟩
          simp only [eqGuard, binOp, Sem.run_bind, Sem.run_pure, run_program, Result.andThen_ok, hg]
          simp [hq, hg]
        · simp at h
      · simp at h
    · simp at h
  · simp at h

theorem aun_run {P : Program} {op : UnOp} {x : AV} {s : Sc} (h : aun op x = some s) {v : Value} (hx : avR ρ x v) (w : World) : ∃ v', scR ρ s v' ∧ (Op.unary op v).run P w = .ok v' w := by
  unfold aun at h
  split at h
  · have e : v = .bool _ := hx
    subst e
    simp at h; subst h
    exact ⟨_, rfl, by simp [Op.unary]⟩
  · have e : v = .int _ _ := hx
    subst e
    simp at h; subst h
    exact ⟨_, rfl, by simp [Op.unary, Op.intArith]⟩
  · simp at h

/-! ### Bounds of a slice -/
theorem numB_run (P : Program) {x : AV} {top q : Nat} (hq : numB x top = some q) {v : Value} (hv : avR ρ x v) {top' : Nat} (ht : top ≤ top') (code : BoundsCode) (w : World) : q ≤ top ∧ (Instr.sliceBound v top' code).run P w = .ok q w := by
  unfold numB at hq
  split at hq
  · have e : v = .int _ _ := hv
    subst e
    split at hq
    · simp at hq; subst hq
      refine ⟨by omega, ?_⟩
      rename_i hb
      unfold Instr.sliceBound
      simp only [asIntOf, Sem.run_bind, Sem.run_pure, Result.andThen_ok]
      rw [if_pos (by omega)]
      simp
    · simp at hq
  · simp at hq
/-- A bound that is there, or is not. -/
def OptR (ρ : Rho) : Option AV → Option Value → Prop
  | none, v => v = none
  | some x, v => ∃ y, v = some y ∧ avR ρ x y
theorem lowB_run (P : Program) {lo : Option AV} {top q : Nat} (hq : lowB lo top = some q) {v : Option Value} (hv : OptR ρ lo v) (code : BoundsCode) (w : World) :
    q ≤ top ∧ (match (generalizing := false) v with | some v => Instr.sliceBound v top code | none => pure 0 : Sem Nat).run P w = .ok q w := by
  cases lo with
  | none => simp [lowB] at hq; subst hq; rw [show v = none from hv]; exact ⟨Nat.zero_le _, rfl⟩
  | some x => obtain ⟨y, rfl, hr⟩ := hv; exact numB_run P (by simpa [lowB] using hq) hr (Nat.le_refl _) code w
theorem bounds_run (P : Program) {n c : Nat} (hc : n ≤ c) {lo hi mx : Option AV} {l hh : Nat} {m : Option Nat} (h : bounds n lo hi mx = some (l, hh, m)) {vlo vhi vmx : Option Value}
    (hlo : OptR ρ lo vlo) (hhi : OptR ρ hi vhi) (hmx : OptR ρ mx vmx) (isS : Bool) (w : World) :
    l ≤ hh ∧ hh ≤ n ∧ (∀ q, m = some q → hh ≤ q ∧ q ≤ n) ∧ (Instr.sliceBounds isS n c vlo vhi vmx).run P w = .ok (l, hh, m.getD c) w := by
  unfold bounds at h
  unfold Instr.sliceBounds
  cases mx with
  | none =>
    rw [show vmx = none from hmx]
    cases hi with
    | none =>
      rw [show vhi = none from hhi]
      simp only [Option.map_eq_some_iff, Prod.mk.injEq] at h
      obtain ⟨q, hq, rfl, rfl, rfl⟩ := h
      obtain ⟨h1, h2⟩ := lowB_run P hq hlo .sliceB w
      refine ⟨h1, Nat.le_refl _, by simp, ?_⟩
      simp only [Sem.run_bind, Sem.run_pure, Result.andThen_ok, Option.isSome_none, Bool.false_eq_true, if_false]
      cases lo with
      | none => simp [lowB] at hq; subst hq; rw [show vlo = none from hlo]; simp
      | some x => obtain ⟨y, rfl, _⟩ := hlo; simp only [] at h2 ⊢; simp [h2]
    | some y =>
      obtain ⟨v, rfl, hr⟩ := hhi
      simp only [Option.bind_eq_some_iff, Option.map_eq_some_iff, Prod.mk.injEq] at h
      obtain ⟨qh, hqh, q, hq, rfl, rfl, rfl⟩ := h
      obtain ⟨h1, h2⟩ := lowB_run P hq hlo .sliceB w
      obtain ⟨h3, h4⟩ := numB_run P hqh hr hc (if isS then .sliceAcap else .sliceAlen) w
      refine ⟨h1, h3, by simp, ?_⟩
      simp only [Sem.run_bind, Sem.run_pure, Result.andThen_ok, h4, Option.isSome_none, Bool.false_eq_true, if_false]
      cases lo with
      | none => simp [lowB] at hq; subst hq; rw [show vlo = none from hlo]; simp
      | some x => obtain ⟨y, rfl, _⟩ := hlo; simp only [] at h2 ⊢; simp [h2]
  | some z =>
    obtain ⟨vz, rfl, hrz⟩ := hmx
    cases hi with
    | none => simp at h
    | some y =>
      obtain ⟨v, rfl, hr⟩ := hhi
      simp only [Option.bind_eq_some_iff, Option.map_eq_some_iff, Prod.mk.injEq] at h
      obtain ⟨qm, hqm, qh, hqh, q, hq, rfl, rfl, rfl⟩ := h
      obtain ⟨h1, h2⟩ := lowB_run P hq hlo .slice3C w
      obtain ⟨h5, h6⟩ := numB_run P hqm hrz hc (if isS then .slice3Acap else .slice3Alen) w
      obtain ⟨h3, h4⟩ := numB_run P hqh hr (Nat.le_refl _) .slice3B w
      refine ⟨h1, by omega, by simp; omega, ?_⟩
      simp only [Sem.run_bind, Sem.run_pure, Result.andThen_ok, h4, h6, Option.isSome_some, if_true]
      cases lo with
      | none => simp [lowB] at hq; subst hq; rw [show vlo = none from hlo]; simp
      | some x => obtain ⟨y, rfl, _⟩ := hlo; simp only [] at h2 ⊢; simp [h2]

theorem aslice_run {P : Program} {X : Env} (hT : X.T = tyOf P) {h : H} {w : World} (hR : Rel ρ h.get h.ro w) {t : TypeId} {x : AV} {lo hi mx : Option AV} {s : Sc} (hs : aslice X h t x lo hi mx = some s) {v : Value} (hx : avR ρ x v)
    {vlo vhi vmx : Option Value} (hlo : OptR ρ lo vlo) (hhi : OptR ρ hi vhi) (hmx : OptR ρ mx vmx) :
    ∃ v', scR ρ s v' ∧ (Instr.sliceAt t v vlo vhi vmx).run P w = .ok v' w := by
  unfold aslice at hs
  rw [hT] at hs
  split at hs
  · rename_i sv ht
    have e : v = .string sv := hx
    subst e
    split at hs
    · simp at hs
    · rename_i hm
      cases mx with
      | some z => simp at hm
      | none =>
        rw [show vmx = none from hmx]
        simp only [Option.map_eq_some_iff, Prod.exists] at hs
        obtain ⟨l, hh, m, hb, rfl⟩ := hs
        obtain ⟨h1, h2, h3, h4⟩ := bounds_run P (Nat.le_refl _) hb hlo hhi (hmx := rfl) false w
        refine ⟨_, rfl, ?_⟩
        simp only [Instr.sliceAt, Instr.slice, Sem.run_bind, run_underlying' (under_str ht), Result.andThen_ok, Option.isSome_none, Bool.false_eq_true, if_false, Sem.run_pure, h4]
  · rename_i e a n full sz ht
    split at hs
    · simp at hs
    · rename_i hsz
      simp only [Option.bind_eq_some_iff, Prod.exists] at hs
      obtain ⟨l, hh, m, hb, hs⟩ := hs
      have hsize := fun w => run_sizeOf' (P := P) (t := e) (.inr (by omega)) w
      cases a with
      | none =>
        obtain ⟨rfl, rfl⟩ := hx
        obtain ⟨h1, h2, h3, h4⟩ := bounds_run P (Nat.le_refl 0) hb hlo hhi hmx true w
        simp at hs; subst hs
        have : l = 0 ∧ hh = 0 ∧ m.getD 0 = 0 := by
          refine ⟨by omega, by omega, ?_⟩
          cases m with
          | none => rfl
          | some q => have := h3 q rfl; simp; omega
        obtain ⟨rfl, rfl, hm⟩ := this
        refine ⟨.slice none 0 0, ⟨rfl, rfl⟩, ?_⟩
        simp only [Instr.sliceAt, Instr.slice, Sem.run_bind, run_underlying' (under_slice ht), Result.andThen_ok, Sem.run_pure, h4, hsize, hm]
        simp
      | some a =>
        obtain ⟨i, o⟩ := a
        obtain ⟨b, base, room, c, ad, hr, rfl, had, hnc, hf, hroom⟩ := hx
        obtain ⟨h1, h2, h3, h4⟩ := bounds_run P hnc hb hlo hhi hmx true w
        dsimp only at hs
        split at hs
        · rename_i hse
          simp only [Option.some.injEq] at hs; subst hs
          have hrun : (Instr.sliceAt t (.slice (some ad) n c) vlo vhi vmx).run P w = .ok (.slice (some (if m.getD c = l then ad else ad.add (l * (tyOf P e).size))) (hh - l) (m.getD c - l)) w := by
            simp only [Instr.sliceAt, Instr.slice, Sem.run_bind, run_underlying' (under_slice ht), Result.andThen_ok, Sem.run_pure, h4, hsize]
            split <;> rfl
          refine ⟨_, ?_, hrun⟩
          have hmc : ∀ q, m = some q → q ≤ c := fun q hq => by have := h3 q hq; omega
          have hlm : l ≤ m.getD c ∧ hh ≤ m.getD c ∧ m.getD c ≤ c := by
            cases m with
            | none => simp; omega
            | some q => have := h3 q rfl; simp; omega
          refine ⟨b, base, room, m.getD c - l, (if m.getD c = l then ad else ad.add (l * (tyOf P e).size)), hr, rfl, ?_, by omega, ?_, ?_⟩
          · by_cases e1 : m.getD c = l
            · right; omega
            · rw [if_neg e1]
              rcases had with had | had
              · subst had
                left
                rw [add_plain, hse, Nat.add_assoc]
              · right; omega
          · intro hfull
            cases m with
            | none => simp at hfull ⊢; have := hf hfull.1; omega
            | some q => simp at hfull ⊢; omega
          · have : l * sz + (m.getD c - l) * sz ≤ c * sz := by
              rw [← Nat.add_mul]
              exact Nat.mul_le_mul_right _ (by omega)
            omega
        · simp at hs
  · rename_i n e i o ht
    obtain ⟨b, base, room, hr, rfl⟩ := hx
    simp only [Option.bind_eq_some_iff, Prod.exists] at hs
    obtain ⟨l, hh, m, hb, hs⟩ := hs
    obtain ⟨h1, h2, h3, h4⟩ := bounds_run P (Nat.le_refl n) hb hlo hhi hmx false w
    split at hs
    · simp at hs
    · rename_i hsz
      have hsize := fun w => run_sizeOf' (P := P) (t := e) (.inr (by omega)) w
      split at hs
      · rename_i ld hld
        simp at hs; subst hs
        have hrun : (Instr.sliceAt t (.pointer (some ⟨b, base + o, none⟩)) vlo vhi vmx).run P w = .ok (.slice (some (if m.getD n = l then ⟨b, base + o, none⟩ else (⟨b, base + o, none⟩ : Addr).add (l * (tyOf P e).size))) (hh - l) (m.getD n - l)) w := by
          simp only [Instr.sliceAt, Instr.sureAddr, Sem.run_bind, run_underlying' (under_array ht), Result.andThen_ok, Sem.run_pure, h4, hsize]
        refine ⟨_, ?_, hrun⟩
        -- the array lies in its block
        have hin : o + n * (tyOf P e).size ≤ room := by
          unfold H.load at hld
          simp only [Option.bind_eq_some_iff] at hld
          obtain ⟨bl, hbl, hld⟩ := hld
          split at hld
          · obtain ⟨b', base', room', e', cs, t', fz, _, hlr, _⟩ := hR.blk i bl hbl
            rw [hr] at e'
            simp only [Option.some.injEq, Prod.mk.injEq] at e'
            omega
          · simp at hld
        have hlm : l ≤ m.getD n ∧ hh ≤ m.getD n ∧ m.getD n ≤ n := by
          cases m with
          | none => simp; omega
          | some q => have := h3 q rfl; simp; omega
        refine ⟨b, base, room, m.getD n - l, (if m.getD n = l then ⟨b, base + o, none⟩ else (⟨b, base + o, none⟩ : Addr).add (l * (tyOf P e).size)), hr, rfl, ?_, by omega, ?_, ?_⟩
        · by_cases e1 : m.getD n = l
          · right; omega
          · rw [if_neg e1, add_plain]
            left
            rw [Nat.add_assoc]
        · intro hfull
          cases m with
          | none => simp at hfull ⊢; omega
          | some q => simp at hfull ⊢; omega
        · have : l * (tyOf P e).size + (m.getD n - l) * (tyOf P e).size ≤ n * (tyOf P e).size := by
            rw [← Nat.add_mul]
            exact Nat.mul_le_mul_right _ (by omega)
          omega
      · simp at hs
  · simp at hs


theorem aindex_run {P : Program} {X : Env} (hT : X.T = tyOf P) {t : TypeId} {x y : AV} {s : Sc} (hs : aindex X t x y = some s) {v u : Value} (hx : avR ρ x v) (hy : avR ρ y u) (w : World) :
    ∃ v', scR ρ s v' ∧ (Instr.indexAt t v u).run P w = .ok v' w := by
  unfold aindex at hs
  rw [hT] at hs
  split at hs
  · rename_i e b o n full sz k i ht
    obtain ⟨bb, base, room, c, ad, hr, rfl, had, hnc, hf, hroom⟩ := hx
    have e2 : u = .int k i := hy
    subst e2
    split at hs
    · rename_i hc
      obtain ⟨h0, h1, h2, h3⟩ := hc
      simp only [Option.some.injEq] at hs; subst hs
      rcases had with had | had
      · subst had
        have hsize := fun w => run_sizeOf' (P := P) (t := e) (.inr (by omega)) w
        refine ⟨_, ⟨bb, base, room, hr, rfl⟩, ?_⟩
        simp only [Instr.indexAt, asIntOf, Sem.run_bind, run_underlying' (under_slice ht), Result.andThen_ok, Sem.run_pure, hsize]
        rw [if_pos ⟨h0, h1⟩]
        simp only [Sem.run_bind, hsize, Result.andThen_ok, Sem.run_pure, add_plain, h2, Nat.add_assoc]
      · omega
    · simp at hs
  · rename_i n e b o k i ht
    obtain ⟨bb, base, room, hr, rfl⟩ := hx
    have e2 : u = .int k i := hy
    subst e2
    split at hs
    · rename_i hc
      obtain ⟨h0, h1, h2⟩ := hc
      simp only [Option.some.injEq] at hs; subst hs
      have hsize := fun w => run_sizeOf' (P := P) (t := e) (.inr h2) w
      refine ⟨_, ⟨bb, base, room, hr, rfl⟩, ?_⟩
      simp only [Instr.indexAt, Instr.sureAddr, asIntOf, Sem.run_bind, run_underlying' (under_array ht), Result.andThen_ok, Sem.run_pure, hsize]
      rw [if_pos ⟨h0, h1⟩]
      simp only [Sem.run_bind, hsize, Result.andThen_ok, Sem.run_pure, add_plain, Nat.add_assoc]
    · simp at hs
  · simp at hs

theorem field_get {fields : Array Field} {fs : List (Nat × TypeId)} (hfs : fs = fields.toList.map fun f => (f.offset, f.type)) {f off : Nat} {ft : TypeId} (h : fs[f]? = some (off, ft)) :
    ∃ fd : Field, fields[f]? = some fd ∧ fd.offset = off ∧ fd.type = ft := by
  subst hfs
  simp only [List.getElem?_map, Option.map_eq_some_iff, Prod.mk.injEq, Array.getElem?_toList] at h
  obtain ⟨fd, h1, h2, h3⟩ := h
  exact ⟨fd, h1, h2, h3⟩

theorem fieldAddr_run {P : Program} {t : TypeId} {fs : List (Nat × TypeId)} (ht : (tyOf P t).ty = .struct fs) {f off : Nat} {ft : TypeId} (hf : fs[f]? = some (off, ft)) (h0 : 0 < (tyOf P ft).size) {i o : Nat} {v : Value} (hx : scR ρ (.ptr (some (i, o))) v) (w : World) :
    ∃ v', scR ρ (.ptr (some (i, o + off))) v' ∧ (Instr.fieldAt t v f).run P w = .ok v' w := by
  obtain ⟨fields, hu, hfs⟩ := under_struct ht
  obtain ⟨fd, hfd, ho, hft⟩ := field_get hfs hf
  obtain ⟨b, base, room, hr, rfl⟩ := hx
  have hsize := fun w => run_sizeOf' (P := P) (t := ft) (.inr h0) w
  refine ⟨_, ⟨b, base, room, hr, rfl⟩, ?_⟩
  have hne : ¬ (tyOf P ft).size = 0 := by omega
  simp only [Instr.fieldAt, Instr.sureAddr, fieldPlace, Sem.run_bind, run_underlying' hu, Result.andThen_ok, hfd, Sem.run_pure, hft, hsize, hne, if_false, ho, add_plain, Nat.add_assoc]

theorem part_run {P : Program} {ft : TypeId} (hty : (tyOf P ft).ty ≠ .none) {l : List Sc} {cs : Array Value} (hl : LR (scR ρ) l cs.toList) {off : Nat} (hle : off + (tyOf P ft).size ≤ l.length) {x : AV}
    (hx : mkAV (tyOf P ft).isAgg ((l.drop off).take (tyOf P ft).size) = some x) (w : World) : ∃ v, avR ρ x v ∧ (part ft cs off).run P w = .ok v w := by
  have h2 : LR (scR ρ) ((l.drop off).take (tyOf P ft).size) ((cs.toList.drop off).take (tyOf P ft).size) := (hl.drop off).take _
  obtain ⟨m1, m2⟩ := mkAV_rel hx h2
  have hsize := fun w => run_sizeOf' (P := P) (t := ft) (.inl hty) w
  have hagg := fun w => run_isAgg' (P := P) (t := ft) hty w
  unfold part
  cases ha : (tyOf P ft).isAgg with
  | true =>
    refine ⟨_, m1 ha, ?_⟩
    simp only [Sem.run_bind, hagg, Result.andThen_ok, ha, if_true, hsize, Sem.run_pure]
    congr 2
    apply Array.toList_inj.1
    rw [Array.toList_extract]
    simp [List.extract, Nat.add_sub_cancel_left]
  | false =>
    obtain ⟨v, hv, hr⟩ := m2 ha
    refine ⟨v, hr, ?_⟩
    have hget : cs[off]? = some v := by
      have : ((cs.toList.drop off).take (tyOf P ft).size)[0]? = some v := by rw [hv]; rfl
      rw [List.getElem?_take] at this
      split at this
      · simpa using this
      · simp at this
    simp only [Sem.run_bind, hagg, Result.andThen_ok, ha, Bool.false_eq_true, if_false, hget, Sem.run_pure]

/-! ### Parts laid over cells -/
theorem setAt_foldl : ∀ (vs : List Value) (k off : Nat) (cs : Array Value), (vs.zipIdx k).foldl (fun cs (p : Value × Nat) => cs.setIfInBounds (off + p.2) p.1) cs =
    (cs.toList.take (off + k) ++ (vs.take (cs.size - (off + k))) ++ cs.toList.drop (off + k + vs.length)).toArray
  | [], k, off, cs => by simp
  | v :: vs, k, off, cs => by
    rw [List.zipIdx_cons, List.foldl_cons]
    have ih := setAt_foldl vs (k + 1) off (cs.setIfInBounds (off + k) v)
    rw [ih]
    congr 1
    apply List.ext_getElem?
    intro j
    simp only [Array.toList_setIfInBounds, Array.size_setIfInBounds, List.length_cons]
    by_cases hk : off + k < cs.size
    · have e1 : cs.size - (off + k) = (cs.size - (off + (k + 1))) + 1 := by omega
      rw [e1, List.take_succ_cons]
      have : List.take (off + (k + 1)) (cs.toList.set (off + k) v) = List.take (off + k) cs.toList ++ [v] := by
        rw [show off + (k + 1) = off + k + 1 from rfl, List.take_succ_eq_append_getElem (by simpa using hk), List.take_set]
        simp
        rw [List.set_eq_of_length_le (by simp; omega)]
      rw [this]
      simp [List.append_assoc]
      rw [List.drop_set, if_pos (by omega), show off + (k + 1) + vs.length = off + k + (vs.length + 1) by omega]
    · have e1 : cs.size - (off + k) = 0 := by omega
      have e2 : cs.size - (off + (k + 1)) = 0 := by omega
      rw [e1, e2]
      simp
      rw [List.set_eq_of_length_le (by simp; omega), List.take_of_length_le (by simp; omega), List.take_of_length_le (by simp; omega), List.drop_eq_nil_of_le (by simp; omega), List.drop_eq_nil_of_le (by simp; omega)]

end
end Go.AM
