/- Every operation of the machine is what the model does. No program here. -/
import Derived.Test.YtlkbcjhemhmfoaaGreatDoorAm5
set_option linter.unusedSimpArgs false
set_option linter.unusedVariables false
namespace Go.AM
open Go

section
variable {ρ : Rho}

theorem Did.one {h : H} {id : Nat} {w : World} {s : Sc} {v' : Value} (hR : Rel ρ h.get h.ro w) (hv : scR ρ s v') {r : Result Next} (hr : r = .ok (.value v') w) : Did ρ h id w (.one s) h r := Did.pure (v := .one s) hR hv hr

theorem store_did {P : Program} {X : Env} (hT : X.T = tyOf P) {h : H} {id : Nat} {w : World} (hR : Rel ρ h.get h.ro w) {t : TypeId} (ht : (X.T t).ty.isNone = false) {i o : Nat} {x : AV} {l : List Sc} (hx : x.cells = some l) (hl : l.length = (X.T t).size) {h' : H} (hs : h.store i o l = some h') {va vx : Value}
    (hva : scR ρ (.ptr (some (i, o))) va) (hvx : avR ρ x vx) {r : Result Next} (hr : r = (do Instr.storeAt t va vx; pure .skip : Sem Next).run P w) : Did ρ h id w undefA h' r := by
  rw [hT] at *
  obtain ⟨b, base, room, hrho, rfl⟩ := hva
  have hc := cells_rel hx hvx
  obtain ⟨w', hrun, h1, h2, h3, h4⟩ := store_rel P hR hs hrho hc
  refine ⟨undef, w', ρ, .inr ⟨?_, rfl⟩, ⟨#[], rfl, trivial⟩, by rw [h3]; exact h3 ▸ h1, h2, h3, h4, fun i hi _ => hi⟩
  rw [hr]
  have hsz : vx.cells.size = (tyOf P t).size := by
    have := hc.length
    simp only [Array.length_toList] at this
    omega
  simp only [Instr.storeAt, Instr.sureAddr, storeVar, Sem.run_bind, Sem.run_pure, Result.andThen_ok, run_sizeOf' (P := P) (t := t) (.inl (isNone_ne ht)), hsz, ne_eq, not_true_eq_false, if_false, hrun]

theorem copy_did {P : Program} {X : Env} (hT : X.T = tyOf P) {h : H} {id : Nat} {w : World} (hR : Rel ρ h.get h.ro w) {t u ty : TypeId} {d s v : AV} {h' : H} (ha : abuiltin X h id .copy [t, u] [d, s] = some (v, h')) {vd vs : Value} (hd : avR ρ d vd) (hs : avR ρ s vs)
    {r : Result Next} (hr : r = (do pure (.value (← Builtin.copy_ #[t, u] ty #[vd, vs])) : Sem Next).run P w) : Did ρ h id w v h' r := by
  obtain ⟨XT, XF, XE, Xs, Xw⟩ := X
  dsimp only at hT
  subst hT
  simp only [abuiltin] at ha
  split at ha
  · rename_i e ht
    split at ha
    · rename_i i o dn full sz
      simp only [Option.bind_eq_some_iff, Prod.exists] at ha
      obtain ⟨n, new, hlc, ha⟩ := ha
      split at ha
      · rename_i hsz
        obtain ⟨rfl, hsz⟩ := hsz
        simp only [Option.map_eq_some_iff, Prod.mk.injEq] at ha
        obtain ⟨h1, hst, rfl, rfl⟩ := ha
        obtain ⟨a', c', vn, rfl, hnc', hvn, hvl, hcells⟩ := lenCells_rel hR hlc hs
        obtain ⟨b, base, room, c, ad, hrho, rfl, had, hnc, hf, hroom⟩ := hd
        obtain ⟨w', hrun, k1, k2, k3, k4⟩ := store_rel P hR hst hrho (hvn.take _)
        obtain ⟨ti, tz, td, hi, _, _, _, hsize, _, _⟩ := tyOf_some (P := P) (t := e) (.inr hsz)
        have hsz2 := fun w => run_sizeOf' (P := P) (t := e) (.inr hsz) w
        refine ⟨.int .i64 (min n dn : Nat), w', ρ, .inl ?_, rfl, by rw [k3]; exact k3 ▸ k1, k2, k3, k4, fun i hi _ => hi⟩
        rw [hr]
        have hfc : (Builtin.firstCells (tyOf P e).size (Nat.min n dn) (.slice a' n c')).run P w = .ok (vn.take (min n dn * (tyOf P e).size)).toArray w := by
          by_cases hn : n = 0
          · subst hn
            have : vn = [] := List.eq_nil_of_length_eq_zero (by simpa using hvl)
            subst this
            have hm : Nat.min 0 dn = 0 := Nat.zero_min dn
            rw [hm]
            cases a' <;> simp [Builtin.firstCells, loadCells, loadCellsFrom]
          · obtain ⟨ax, rfl, hcl⟩ := hcells hn
            refine run_firstCells_some (P := P) w (tyOf P e).size (Nat.min n dn) ax n c' _ ?_ fun j v hj => ?_
            · rw [List.length_take, hvl]
              exact Nat.min_eq_left (Nat.mul_le_mul_right _ (Nat.min_le_left _ _))
            · have hj' : j < min n dn * (tyOf P e).size := by
                have := (List.getElem?_eq_some_iff.1 hj).1
                simp at this; omega
              rw [List.getElem?_take_of_lt hj'] at hj
              exact hcl j v hj
        have hst2 : (storeCells ad (vn.take (min n dn * (tyOf P e).size))).run P w = .ok () w' := by
          rcases had with had | had
          · subst had; exact hrun
          · have hm : min n dn = 0 := by omega
            rw [hm] at hrun ⊢
            simp only [Nat.zero_mul, List.take_zero] at hrun ⊢
            simpa [storeCells] using hrun
        simp [Builtin.copy_, run_underlying' (under_slice ht), Builtin.lenOf, hsz2, hfc, hst2, goInt]
      · simp at ha
    · simp at ha
  · simp at ha

theorem clear_did {P : Program} {X : Env} (hT : X.T = tyOf P) {h : H} {id : Nat} {w : World} (hR : Rel ρ h.get h.ro w) {t ty : TypeId} {x v : AV} {h' : H} (ha : abuiltin X h id .clear [t] [x] = some (v, h')) {vx : Value} (hx : avR ρ x vx)
    {r : Result Next} (hr : r = (do pure (.value (← Builtin.clear_ #[t] ty #[vx])) : Sem Next).run P w) : Did ρ h id w v h' r := by
  obtain ⟨XT, XF, XE, Xs, Xw⟩ := X
  dsimp only at hT
  subst hT
  simp only [abuiltin] at ha
  split at ha
  · rename_i e n full sz ht
    simp only [Option.some.injEq, Prod.mk.injEq] at ha
    obtain ⟨rfl, rfl⟩ := ha
    obtain ⟨_, rfl⟩ := hx
    refine Did.pure (v := undefA) (v' := .tuple #[]) hR ⟨#[], rfl, trivial⟩ ?_
    rw [hr]
    simp [Builtin.clear_, run_underlying' (under_slice ht)]
  · rename_i e i o n full sz ht
    obtain ⟨b, base, room, c, ad, hrho, rfl, had, hnc, hf, hroom⟩ := hx
    split at ha
    · rename_i hn
      subst hn
      simp only [Option.some.injEq, Prod.mk.injEq] at ha
      obtain ⟨rfl, rfl⟩ := ha
      refine Did.pure (v := undefA) (v' := .tuple #[]) hR ⟨#[], rfl, trivial⟩ ?_
      rw [hr]
      simp [Builtin.clear_, run_underlying' (under_slice ht)]
    · rename_i hn
      split at ha
      · rename_i hz
        obtain ⟨hz1, hty⟩ := hz
        simp only [Option.map_eq_some_iff, Prod.mk.injEq] at ha
        obtain ⟨h1, hst, rfl, rfl⟩ := ha
        obtain ⟨z, hzv, hzr⟩ := zero_rel (P := P) (t := e) (.inl (isNone_ne hty))
        obtain ⟨w', hrun, k1, k2, k3, k4⟩ := store_rel P hR hst hrho (zeros_rel (hzr ρ) n)
        refine ⟨undef, w', ρ, .inl ?_, ⟨#[], rfl, trivial⟩, by rw [k3]; exact k3 ▸ k1, k2, k3, k4, fun i hi _ => hi⟩
        have had' : ad = ⟨b, base + o, none⟩ := by
          rcases had with had | had
          · exact had
          · omega
        subst had'
        rw [hr]
        obtain ⟨m, rfl⟩ : ∃ m, n = m + 1 := ⟨n - 1, by omega⟩
        have hrun' : (storeCells ⟨b, base + o, none⟩ (Builtin.zeroCells z.cells (m + 1)).toList).run P w = .ok () w' := hrun
        simp [Builtin.clear_, run_underlying' (under_slice ht), hzv, hrun', undef]
      · simp at ha
  · simp at ha

theorem builtin_did {P : Program} {X : Env} (hT : X.T = tyOf P) {h : H} {id : Nat} {w : World} (hR : Rel ρ h.get h.ro w) (hid : ρ id = none) (hidro : h.ro ≤ id) {b : Builtin} {ts : Array TypeId} {ty : TypeId} {args : List AV} {v : AV} {h' : H} (ha : abuiltin X h id b ts.toList args = some (v, h')) {vs : Array Value} (hv : LR (avR ρ) args vs.toList)
    (cb : Array Bool) {r : Result Next} (hr : r = (builtin b ts ty cb vs).run P w) : Did ρ h id w v h' r := by
  have two : ∀ (x y : AV), args = [x, y] → ∃ vx vy, vs = #[vx, vy] ∧ avR ρ x vx ∧ avR ρ y vy := by
    intro x y e
    subst e
    obtain ⟨l⟩ := vs
    match l, hv with
    | [vx, vy], hv => exact ⟨vx, vy, rfl, hv.1, hv.2.1⟩
    | _ :: _ :: _ :: _, hv => exact hv.2.2.elim
  have one : ∀ (x : AV), args = [x] → ∃ vx, vs = #[vx] ∧ avR ρ x vx := by
    intro x e
    subst e
    obtain ⟨l⟩ := vs
    match l, hv with
    | [vx], hv => exact ⟨vx, rfl, hv.1⟩
    | _ :: _ :: _, hv => exact hv.2.elim
  obtain ⟨tl⟩ := ts
  have ha0 := ha
  unfold abuiltin at ha
  split at ha
  · rename_i t x he
    have he : tl = [t] := he
    subst he
    obtain ⟨vx, rfl, hx⟩ := one x rfl
    rw [hT] at ha
    split at ha
    · rename_i s ht
      simp only [Option.some.injEq, Prod.mk.injEq] at ha
      obtain ⟨rfl, rfl⟩ := ha
      have e : vx = .string s := hx
      subst e
      refine Did.one (v' := .int .i64 s.size) hR (by exact rfl) ?_
      rw [hr]
      simp [builtin, Builtin.len_, run_underlying' (under_str ht), goInt]
    · rename_i e a n full sz ht
      simp only [Option.some.injEq, Prod.mk.injEq] at ha
      obtain ⟨rfl, rfl⟩ := ha
      have e1 : ∃ a' c, vx = .slice a' n c := by
        cases a with
        | none => obtain ⟨rfl, rfl⟩ := hx; exact ⟨_, _, rfl⟩
        | some a => obtain ⟨b, base, room, c, ad, _, rfl, _⟩ := hx; exact ⟨_, _, rfl⟩
      obtain ⟨a', c, rfl⟩ := e1
      refine Did.one (v' := .int .i64 n) hR (by exact rfl) ?_
      rw [hr]
      simp [builtin, Builtin.len_, run_underlying' (under_slice ht), goInt]
    · simp at ha
  · rename_i t u s x he
    have he : tl = [t, u] := he
    subst he
    obtain ⟨vs', vx, rfl, hs, hx⟩ := two s x rfl
    exact append_did (ty := ty) hT hR hid hidro ha0 hs hx (by rw [hr]; simp only [builtin])
  · rename_i t u d s he
    have he : tl = [t, u] := he
    subst he
    obtain ⟨vd, vs', rfl, hd, hs⟩ := two d s rfl
    exact copy_did (ty := ty) hT hR ha0 hd hs (by rw [hr]; simp only [builtin])
  · rename_i t x he
    have he : tl = [t] := he
    subst he
    obtain ⟨vx, rfl, hx⟩ := one x rfl
    exact clear_did (ty := ty) hT hR ha0 hx (by rw [hr]; simp only [builtin])
  · rename_i k a k' b
    obtain ⟨vx, vy, rfl, hx, hy⟩ := two _ _ rfl
    simp only [Option.some.injEq, Prod.mk.injEq] at ha
    obtain ⟨rfl, rfl⟩ := ha
    have e1 : vx = .int k a := hx
    have e2 : vy = .int k' b := hy
    subst e1 e2
    refine Did.one (v' := .int k (if b < a then b else a)) hR (by exact rfl) ?_
    rw [hr]
    simp [builtin, Builtin.min_, Builtin.min2]
  · rename_i k a k' b
    obtain ⟨vx, vy, rfl, hx, hy⟩ := two _ _ rfl
    simp only [Option.some.injEq, Prod.mk.injEq] at ha
    obtain ⟨rfl, rfl⟩ := ha
    have e1 : vx = .int k a := hx
    have e2 : vy = .int k' b := hy
    subst e1 e2
    refine Did.one (v' := .int k (if b > a then b else a)) hR (by exact rfl) ?_
    rw [hr]
    simp [builtin, Builtin.max_, Builtin.max2]
  · simp at ha


theorem allB_mem {α : Type} {p : α → Bool} : ∀ {l : List α}, allB p l = true → ∀ {x : α}, x ∈ l → p x = true
  | [], _, _, hx => by simp at hx
  | a :: l, h, x, hx => by
    simp only [allB, Bool.and_eq_true] at h
    rcases List.mem_cons.1 hx with rfl | hx
    · exact h.1
    · exact allB_mem h.2 hx

theorem ev_list {ev : Operand → AV} {a : Act} (he : ∀ x, avR ρ (ev x) (a.eval x)) (l : Array Operand) : LR (avR ρ) (l.toList.map ev) (l.map a.eval).toList := by
  rw [Array.toList_map]
  exact LR.self (S := avR ρ) (f := ev) (g := a.eval) he l.toList

theorem ev_opt {ev : Operand → AV} {a : Act} (he : ∀ x, avR ρ (ev x) (a.eval x)) (x : Option Operand) : OptR ρ (x.map ev) (x.map a.eval) := by
  cases x with
  | none => rfl
  | some x => exact ⟨_, rfl, he x⟩

theorem caps_rel : ∀ {l : List AV} {vs : List Value} {r : List (Nat × Nat)}, capsOf l = some r → LR (avR ρ) l vs → LR (ptrR ρ) r vs
  | [], [], r, h, _ => by simp [capsOf, allSome] at h; subst h; trivial
  | x :: l, v :: vs, r, h, hr => by
    simp only [capsOf, List.map_cons, allSome, Option.bind_eq_some_iff, Option.map_eq_some_iff] at h
    obtain ⟨a, ha, r', hr', rfl⟩ := h
    split at ha
    · simp only [Option.some.injEq] at ha
      subst ha
      exact ⟨hr.1, caps_rel hr' hr.2⟩
    · simp at ha
  | [], _ :: _, _, _, hr => hr.elim
  | _ :: _, [], _, _, hr => hr.elim

theorem elAV_rel {e : Bool × List Sc} {x : AV} (h : elAV e = some x) {v : Value} (hv : elR ρ e v) : avR ρ x v := by
  unfold elAV at h
  split at h
  · simp only [Option.some.injEq] at h; subst h; exact hv
  · simp only [Option.some.injEq] at h; subst h; exact hv
  · simp at h
theorem avEl_rel {e : Bool × List Sc} {x : AV} (h : avEl x = some e) {v : Value} (hv : avR ρ x v) : elR ρ e v := by
  unfold avEl at h
  split at h
  · simp only [Option.some.injEq] at h; subst h; exact hv
  · simp only [Option.some.injEq] at h; subst h; exact hv
  · simp at h

/-- EVERY OPERATION. -/
theorem aop_did {P : Program} {X : Env} (hT : X.T = tyOf P) (hS : SEqOK P X) {h : H} {id : Nat} {w : World} (hR : Rel ρ h.get h.ro w) (hid : ρ id = none) (hidro : h.ro ≤ id) {ev : Operand → AV} {a : Act} (he : ∀ x, avR ρ (ev x) (a.eval x)) {o : Oper} {v : AV} {h' : H} (ha : aop X ev h id o.op = some (v, h')) :
    Did ρ h id w v h' ((execOp a.eval o).run P w) := by
  obtain ⟨dst, op, type, pos, after, guard⟩ := o
  dsimp only at ha
  cases op with
  | move x =>
    simp only [aop, Option.some.injEq, Prod.mk.injEq] at ha
    obtain ⟨rfl, rfl⟩ := ha
    exact Did.pure hR (he x) rfl
  | assign x =>
    simp only [aop, Option.some.injEq, Prod.mk.injEq] at ha
    obtain ⟨rfl, rfl⟩ := ha
    exact Did.pure hR (he x) rfl
  | pick c x y =>
    simp only [aop] at ha
    split at ha
    · rename_i t hc
      simp only [Option.some.injEq, Prod.mk.injEq] at ha
      obtain ⟨rfl, rfl⟩ := ha
      have hb := he c
      rw [hc] at hb
      have hb : a.eval c = .bool t := hb
      refine Did.pure (v' := if t then a.eval x else a.eval y) hR (by cases t <;> simp [he]) ?_
      simp only [execOp, hb, asBool, Sem.run_bind, Sem.run_pure, Result.andThen_ok]
    · simp at ha
  | alloc t =>
    simp only [aop] at ha
    split at ha
    · simp at ha
    · rename_i ht
      simp only [Option.some.injEq, Prod.mk.injEq] at ha
      obtain ⟨rfl, rfl⟩ := ha
      exact alloc_did hT hR hid (by simpa using ht) (by simp only [execOp])
  | box t x =>
    simp only [aop, Option.map_eq_some_iff, Prod.mk.injEq] at ha
    obtain ⟨l, hl, rfl, rfl⟩ := ha
    exact box_did (P := P) (t := t) hR hid hl (he x) (by simp only [execOp])
  | load t x =>
    simp only [aop] at ha
    split at ha
    · rename_i i o hx
      split at ha
      · simp at ha
      · rename_i ht
        simp only [Option.bind_eq_some_iff, Option.map_eq_some_iff, Prod.mk.injEq] at ha
        obtain ⟨l, hl, y, hy, rfl, rfl⟩ := ha
        have hv := he x
        rw [hx] at hv
        rw [hT] at hl hy ht
        obtain ⟨v', hv', hrun⟩ := load_run (P := P) (isNone_ne (by simpa using ht)) hR hl hy hv
        refine Did.pure hR hv' ?_
        simp only [execOp, Sem.run_bind, hrun, Result.andThen_ok, Sem.run_pure]
    · simp at ha
  | store t x y =>
    simp only [aop] at ha
    split at ha
    · rename_i i o hx
      split at ha
      · simp at ha
      · rename_i ht
        simp only [Option.bind_eq_some_iff] at ha
        obtain ⟨l, hl, ha⟩ := ha
        split at ha
        · rename_i hlen
          simp only [Option.map_eq_some_iff, Prod.mk.injEq] at ha
          obtain ⟨h1, hst, rfl, rfl⟩ := ha
          have hv := he x
          rw [hx] at hv
          exact store_did hT hR (by simpa using ht) hl hlen hst hv (he y) (by simp only [execOp])
        · simp at ha
    · simp at ha
  | nilCheck x =>
    simp only [aop] at ha
    split at ha
    · rename_i p hx
      simp only [Option.some.injEq, Prod.mk.injEq] at ha
      obtain ⟨rfl, rfl⟩ := ha
      have hv := he x
      rw [hx] at hv
      obtain ⟨b, base, room, hr, hb⟩ := hv
      refine Did.one (v' := a.eval x) hR (by exact ⟨b, base, room, hr, hb⟩) ?_
      simp only [execOp, hb, Sem.run_pure]
    · rename_i f c hx
      simp only [Option.some.injEq, Prod.mk.injEq] at ha
      obtain ⟨rfl, rfl⟩ := ha
      have hv := he x
      rw [hx] at hv
      obtain ⟨cs, hb, hc⟩ := hv
      refine Did.one (v' := a.eval x) hR (by exact ⟨cs, hb, hc⟩) ?_
      simp only [execOp, hb, Sem.run_pure]
    · simp at ha
  | binOp op t x y ty =>
    simp only [aop, Option.map_eq_some_iff, Prod.mk.injEq] at ha
    obtain ⟨s, hs, rfl, rfl⟩ := ha
    obtain ⟨v', hv', hrun⟩ := abin_run (P := P) hT hS hs (he x) (he y) x y w
    refine Did.one hR hv' ?_
    simp only [Sem.run_bind] at hrun
    simp only [execOp, Sem.run_bind, Sem.run_pure]
    rw [hrun]
    rfl
  | unOp op t x =>
    simp only [aop, Option.map_eq_some_iff, Prod.mk.injEq] at ha
    obtain ⟨s, hs, rfl, rfl⟩ := ha
    obtain ⟨v', hv', hrun⟩ := aun_run (P := P) hs (he x) w
    refine Did.one hR hv' ?_
    simp only [execOp, Sem.run_bind, hrun, Result.andThen_ok, Sem.run_pure]
  | convert s d x =>
    simp only [aop] at ha
    split at ha
    · rename_i k1 k2 k3 n hs hd hx
      simp only [Option.some.injEq, Prod.mk.injEq] at ha
      obtain ⟨rfl, rfl⟩ := ha
      have hv := he x
      rw [hx] at hv
      have hb : a.eval x = .int k3 n := hv
      rw [hT] at hs hd
      refine Did.one (v' := .int k2 (k2.wrap n)) hR (by exact rfl) ?_
      simp [execOp, hb, convert, run_underlying' (under_int hs), run_underlying' (under_int hd), Conv.intToInt]
    · simp at ha
  | makeFunc f first caps =>
    cases f with
    | func g =>
      simp only [aop] at ha
      split at ha
      · rename_i hf
        simp only [Option.map_eq_some_iff, Prod.mk.injEq] at ha
        obtain ⟨l, hl, rfl, rfl⟩ := ha
        refine Did.one (v' := .func (.func g) #[] (caps.map a.eval)) hR (by exact ⟨_, rfl, caps_rel hl (ev_list he caps)⟩) ?_
        have : first = #[] := by simpa using hf
        subst this
        simp [execOp, Instr.makeFunc]
      · simp at ha
    | _ => simp [aop] at ha
  | makeSlice t l c =>
    simp only [aop] at ha
    split at ha
    · rename_i e k n k' m ht hl hc
      split at ha
      · rename_i hb
        simp only [Option.some.injEq, Prod.mk.injEq] at ha
        obtain ⟨rfl, rfl⟩ := ha
        have h1 := he l
        have h2 := he c
        rw [hl] at h1
        rw [hc] at h2
        have h1 : a.eval l = .int k n := h1
        have h2 : a.eval c = .int k' m := h2
        exact makeSlice_did hT hR hid ht (k := k) (k' := k') hb (by simp only [execOp, h1, h2])
      · simp at ha
    · simp at ha
  | slice t x lo hi mx =>
    simp only [aop, Option.map_eq_some_iff, Prod.mk.injEq] at ha
    obtain ⟨s, hs, rfl, rfl⟩ := ha
    obtain ⟨v', hv', hrun⟩ := aslice_run (P := P) hT hR hs (he x) (ev_opt he lo) (ev_opt he hi) (ev_opt he mx)
    refine Did.one hR hv' ?_
    simp only [execOp, Sem.run_bind, hrun, Result.andThen_ok, Sem.run_pure]
  | fieldAddr t x f =>
    simp only [aop] at ha
    split at ha
    · rename_i fs i o ht hx
      simp only [Option.bind_eq_some_iff, Prod.exists] at ha
      obtain ⟨off, ft, hf, ha⟩ := ha
      split at ha
      · rename_i h0
        simp only [Option.some.injEq, Prod.mk.injEq] at ha
        obtain ⟨rfl, rfl⟩ := ha
        have hv := he x
        rw [hx] at hv
        rw [hT] at ht h0
        obtain ⟨v', hv', hrun⟩ := fieldAddr_run (P := P) ht hf h0 hv w
        refine Did.one hR hv' ?_
        simp only [execOp, Sem.run_bind, hrun, Result.andThen_ok, Sem.run_pure]
      · simp at ha
    · simp at ha
  | field t x f =>
    simp only [aop] at ha
    split at ha
    · rename_i fs l ht hx
      simp only [Option.bind_eq_some_iff, Prod.exists] at ha
      obtain ⟨off, ft, hf, ha⟩ := ha
      split at ha
      · rename_i h0
        simp only [Option.map_eq_some_iff, Prod.mk.injEq] at ha
        obtain ⟨y, hy, rfl, rfl⟩ := ha
        have hv := he x
        rw [hx] at hv
        obtain ⟨cs, hb, hc⟩ := hv
        rw [hT] at ht h0 hy
        obtain ⟨fields, hu, hfs⟩ := under_struct ht
        obtain ⟨fd, hfd, ho, hft⟩ := field_get hfs hf
        obtain ⟨v', hv', hrun⟩ := part_run (P := P) (isNone_ne h0.2) hc h0.1 hy w
        refine Did.pure hR hv' ?_
        simp only [execOp, hb, Instr.field, Sem.run_bind, run_underlying' hu, Result.andThen_ok, hfd, asAgg, Sem.run_pure, ho, hft, hrun]
      · simp at ha
    · simp at ha
  | indexAddr t x i =>
    simp only [aop, Option.map_eq_some_iff, Prod.mk.injEq] at ha
    obtain ⟨s, hs, rfl, rfl⟩ := ha
    obtain ⟨v', hv', hrun⟩ := aindex_run (P := P) hT hs (he x) (he i) w
    refine Did.one hR hv' ?_
    simp only [execOp, Sem.run_bind, hrun, Result.andThen_ok, Sem.run_pure]
  | index t x i =>
    simp only [aop] at ha
    split at ha
    · rename_i s k n ht hx hi
      split at ha
      · rename_i h0
        simp only [Option.map_eq_some_iff, Prod.mk.injEq] at ha
        obtain ⟨b, hb, rfl, rfl⟩ := ha
        have h1 := he x
        have h2 := he i
        rw [hx] at h1
        rw [hi] at h2
        have h1 : a.eval x = .string s := h1
        have h2 : a.eval i = .int k n := h2
        rw [hT] at ht
        refine Did.one (v' := .int .u8 b.toNat) hR (by exact rfl) ?_
        have hb' : s[n.toNat]? = some b := by
          have hlt := (Array.getElem?_eq_some_iff.1 hb).1
          have he2 := (Array.getElem?_eq_some_iff.1 hb).2
          rw [getElem?_pos s n.toNat hlt]
          exact congrArg some he2
        simp only [execOp, h1, h2, Instr.index, asIntOf, Sem.run_bind, Sem.run_pure, Result.andThen_ok, run_underlying' (under_str ht), if_pos h0, hb']
      · simp at ha
    · simp at ha
  | extract x i =>
    simp only [aop] at ha
    split at ha
    · rename_i l hx
      simp only [Option.bind_eq_some_iff, Option.map_eq_some_iff, Prod.mk.injEq] at ha
      obtain ⟨e, hl, y, hy, rfl, rfl⟩ := ha
      have hv := he x
      rw [hx] at hv
      obtain ⟨vs, hb, hc⟩ := hv
      obtain ⟨v', hv', hr⟩ := hc.get hl
      refine Did.pure (v' := v') hR (elAV_rel hy hr) ?_
      have hv'' : vs[i]? = some v' := by simpa using hv'
      simp only [execOp, hb, Instr.extract, hv'', Sem.run_bind, Sem.run_pure, Result.andThen_ok]
    · simp at ha
  | build t parts =>
    simp only [aop] at ha
    split at ha
    · rename_i fs ht
      split at ha
      · rename_i hall
        simp only [Option.map_eq_some_iff, Prod.mk.injEq] at ha
        obtain ⟨l, hl, rfl, rfl⟩ := ha
        rw [hT] at ht hl hall
        obtain ⟨fields, hu, hfs⟩ := under_struct ht
        obtain ⟨z, hzv, hzr⟩ := zero_rel (P := P) (t := t) (.inl (by rw [ht]; simp))
        obtain ⟨cells, hfill, hcl⟩ := fills_run hl (hzr ρ) (parts_rel he parts)
        have hpos : ∀ f ∈ fields.toList, 0 < (tyOf P f.type).size := fun f hf => by
          have := allB_mem hall (x := (f.offset, f.type)) (by rw [hfs]; exact List.mem_map.2 ⟨f, hf, rfl⟩)
          simpa using this
        have hpl := mapM_places (P := P) (fields := fields) (fun f hf w => run_sizeOf' (.inr (hpos f hf)) w) w
        have hfn : (fun i : Nat => (fields.map fun f => (f.offset, (tyOf P f.type).size))[i]?) = (fun i : Nat => fs[i]?.map fun p : Nat × TypeId => (p.1, (tyOf P p.2).size)) := by
          funext i
          rw [hfs]
          simp [Array.getElem?_map, List.getElem?_map, Option.map_map, Function.comp_def]
        refine Did.pure (v' := .agg cells) hR (by exact ⟨cells, rfl, hcl⟩) ?_
        have hrun : (Instr.build t (parts.map fun (i, x) => (i, a.eval x))).run P w = .ok (.agg cells) w := by
          simp only [Instr.build, Sem.run_bind, hzv, Result.andThen_ok, run_underlying' hu, Sem.run_pure, hpl]
          rw [hfn, hfill]
          rfl
        simp only [execOp, Sem.run_bind, hrun, Result.andThen_ok, Sem.run_pure]
      · simp at ha
    · simp at ha
  | buildSlice t len parts =>
    simp only [aop] at ha
    split at ha
    · rename_i e ht
      split at ha
      · rename_i hc
        simp only [Option.map_eq_some_iff, Prod.mk.injEq] at ha
        obtain ⟨l, hl, rfl, rfl⟩ := ha
        exact buildSlice_did hT hR hid ht hc hl (parts_rel he parts) (by simp only [execOp])
      · simp at ha
    · simp at ha
  | call c =>
    obtain ⟨cal, args, argTypes⟩ := c
    cases cal with
    | builtin b =>
      simp only [aop] at ha
      simp only [execOp, resolve, Sem.run_bind, Sem.run_pure, Result.andThen_ok, invoke]
      exact builtin_did hT hR hid hidro (ty := type) ha (ev_list he args) _ rfl
    | _ => simp [aop] at ha
  | _ => simp [aop] at ha

end
end Go.AM
