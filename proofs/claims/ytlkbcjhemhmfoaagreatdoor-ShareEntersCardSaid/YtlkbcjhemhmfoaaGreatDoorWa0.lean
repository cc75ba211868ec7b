/- Walks: the steps as they are used. No program here. -/
import Derived.Test.YtlkbcjhemhmfoaaGreatDoorAmZ
set_option linter.unusedSimpArgs false
set_option linter.unusedVariables false
namespace Go.AM
open Go

/-- A call that changes nothing, and its value. -/
abbrev Ct0 (X : Env) (g : FuncId) (args : List AV) (bl : BL) (nb : Nat) (v : AV) : Prop := Ct X g args bl nb Unit (fun _ => v) (fun _ => []) (fun _ => nb)
abbrev Fin0 (X : Env) (rs : List ResultVar) (nb : Nat) (v : AV) : KC := FinK X rs nb Unit (fun _ => v) (fun _ => []) (fun _ => nb)

theorem RvSc_flat {tl : List (Option Nat)} {s : Sc} (hf : flatSc s = true) : RvSc tl s s := by
  cases s with
  | ptr a => cases a with
    | none => exact rfl
    | some a => cases hf
  | sl a n f z => cases a with
    | none => exact rfl
    | some a => cases hf
  | fn => cases hf
  | _ => exact rfl
theorem RvAV_flat {tl : List (Option Nat)} {v : AV} (hf : v.flat = true) : RvAV tl v v := by
  cases v with
  | one s => exact RvSc_flat hf
  | agg l => exact .inl ⟨rfl, hf⟩
  | tup l => exact .inl ⟨rfl, hf⟩
  | top => trivial

def idL : Nat → Nat → List (Option Nat)
  | _, 0 => []
  | i, n + 1 => some i :: idL (i + 1) n
theorem idL_len : ∀ (n i : Nat), (idL i n).length = n
  | 0, _ => rfl
  | n + 1, i => by simp [idL, idL_len n (i + 1)]
theorem lenK_iff {α : Type} : ∀ {l : List α} {n : Nat}, l.length = n → lenK l n = true
  | [], 0, _ => rfl
  | [], n + 1, h => by simp at h
  | _ :: _, 0, h => by simp at h
  | _ :: l, n + 1, h => lenK_iff (l := l) (by simpa using h)
theorem idL_get : ∀ (n i j : Nat), j < n → nth (idL i n) j = some (some (i + j))
  | 0, _, _, h => by omega
  | n + 1, i, 0, _ => rfl
  | n + 1, i, j + 1, h => by
    show nth (idL (i + 1) n) j = _
    rw [idL_get n (i + 1) j (by omega)]
    congr 2; omega
theorem idL_id (k : Nat) : idTl k (idL 0 k) = true := by
  unfold idTl
  have all : ∀ l : List Nat, (∀ j ∈ l, j < k) → allB (fun j => match nth (idL 0 k) j with | some (some j') => Nat.beq j' j | _ => false) l = true := by
    intro l
    induction l with
    | nil => intro _; rfl
    | cons a l ih =>
      intro h
      simp only [allB, Bool.and_eq_true]
      refine ⟨?_, ih fun j hj => h j (List.mem_cons_of_mem _ hj)⟩
      rw [idL_get k 0 a (h a List.mem_cons_self)]
      simp
  exact all _ fun j hj => List.mem_range.1 hj

/-- A run, told of once for all. -/
structure Rn (X : Env) (nt k : Nat) (F : Fo) (S : List Kt) (st : St) (K : KC) : Prop where
  run : Run X nt k F S st K

section
variable {X : Env} {nt k : Nat} {K : KC} {F : Fo} {S S' : List Kt} {st st1 st2 : St} {f1 f2 : Fo}

theorem Rn.split (hz : ZeroFlat X) (n : Nat) {b : Bool} (hx : exec X nt n F S st = some (.split b S' f1 st1 f2 st2)) (h1 : b = true → Rn X nt k f1 S' st1 K) (h2 : b = false → Rn X nt k f2 S' st2 K) : Rn X nt k F S st K := ⟨Run.step hz n hx ⟨fun h => (h1 h).run, fun h => (h2 h).run⟩⟩
theorem Rn.ask (hz : ZeroFlat X) (n : Nat) {A : Prop} {v : AV} {r : Rs} (hx : exec X nt n F S st = some (.ask A v r st1)) (h1 : A) (h2 : Rn X nt k (.put r.C r.o.dst v r.rest r.i) r.S st1 K) : Rn X nt k F S st K := ⟨Run.step hz n hx ⟨h1, h2.run⟩⟩
theorem Rn.fin0 (hz : ZeroFlat X) (n : Nat) {rs : List ResultVar} {v v0 : AV} {e : Ex} {p : P} {bl : BL} {nb : Nat} (hx : exec X nt n F S st = some (.fin e p bl nb)) (hex : exOK e = true) (hv : resV X rs p bl = some v) (hf : v.flat = true) (h : v = v0) : Rn X nt k F S st (Fin0 X rs k v0) := by
  subst h
  exact ⟨Run.step hz n hx ⟨hex, v, hv, (), idL 0 k, lenK_iff (idL_len k 0), idL_id k, RvAV_flat hf, trivial, rfl, rfl, fun _ h => by cases h⟩⟩
theorem Rn.draw (hz : ZeroFlat X) (n : Nat) {ops : List Oper} (bs : List Nat) (hx : exec X nt n F S st = some (.draw ops S' st1)) (h1 : befs ops = bs) (h2 : drawOK X ops = true) (h3 : Rn X nt k (.reg ⟨ops, true, bs⟩ ops 0) S' st1 K) : Rn X nt k F S st K := ⟨Run.step hz n hx ⟨bs, h1, h2, h3.run⟩⟩
theorem Rn.loadR (hz : ZeroFlat X) (n : Nat) {l : List Sc} {off m : Nat} {agg : Bool} {v : AV} {r : Rs} (hx : exec X nt n F S st = some (.loadR l off m agg r st1)) (h1 : LoadR l off m agg v) (h2 : Rn X nt k (.put r.C r.o.dst v r.rest r.i) r.S st1 K) : Rn X nt k F S st K := ⟨Run.step hz n hx ⟨v, h1, h2.run⟩⟩
theorem Rn.storeR (hz : ZeroFlat X) (n : Nat) {l l' : List Sc} {j off : Nat} {xs : List Sc} {r : Rs} (hx : exec X nt n F S st = some (.storeR l j off xs r st1)) (h1 : StoreR l off xs l') (h2 : updSt j l' st1 = some st2) (h3 : Rn X nt k (.put r.C r.o.dst undefA r.rest r.i) r.S st2 K) : Rn X nt k F S st K := ⟨Run.step hz n hx ⟨l', h1, st2, h2, h3.run⟩⟩

theorem wFrom_none {ρ : Type} {tl : List (Option Nat)} : ∀ {l : BL} {k : List Nat → Option ρ}, (∀ e ∈ l, e.w = false) → wFrom tl l k = k []
  | [], k, _ => rfl
  | ⟨j, w, b, c⟩ :: l, k, h => by
    have := h _ List.mem_cons_self
    have hw : w = false := this
    subst hw
    unfold wFrom
    rw [wFrom_none fun e he => h e (List.mem_cons_of_mem _ he)]
theorem fwdT_flat {ρ : Type} {fj : Nat → Option Nat} {v : AV} {k : AV → Option ρ} (h : v.flat = true) : fwdAVK fj v k = k v := by
  have sc : ∀ {s : Sc} {k : Sc → Option ρ}, flatSc s = true → fwdScK fj s k = k s := fun {s k} h => by
    cases s with
    | ptr a => cases a with
      | none => rfl
      | some a => cases h
    | sl a n f z => cases a with
      | none => rfl
      | some a => cases h
    | fn => cases h
    | _ => rfl
  have ls : ∀ {l : List Sc} {k : List Sc → Option ρ}, allB flatSc l = true → fwdLK fj l k = k l := by
    intro l
    induction l with
    | nil => intro k _; rfl
    | cons a l ih =>
      intro k h
      simp only [allB, Bool.and_eq_true] at h
      unfold fwdLK
      rw [sc h.1, ih h.2]
  have ts : ∀ {l : List (Bool × List Sc)} {k : List (Bool × List Sc) → Option ρ}, allB (fun e => allB flatSc e.2) l = true → fwdTK fj l k = k l := by
    intro l
    induction l with
    | nil => intro k _; rfl
    | cons a l ih =>
      intro k h
      obtain ⟨b, s⟩ := a
      simp only [allB, Bool.and_eq_true] at h
      unfold fwdTK
      rw [ls h.1, ih h.2]
  cases v with
  | one s => exact sc (k := fun s => k (.one s)) h
  | agg l => exact ls (k := fun s => k (.agg s)) h
  | tup l => exact ts (k := fun s => k (.tup s)) h
  | top => rfl

/-- A call that changes nothing, of a function whose value is known. -/
theorem Rn.call0 (hz : ZeroFlat X) (n : Nat) {g : FuncId} {args args0 : List AV} {bl0 : BL} {nb0 : Nat} {v : AV} {r : Rs} {p : P} {dc : DC} {bl : BL} {nb : Nat} {sp : Tk} {ss : Ts} (hx : exec X nt n F S st = some (.call g args r ⟨p, dc, bl, nb, sp, ss⟩)) (c : Ct0 X g args0 bl0 nb0 v) (tl : List (Option Nat))
    (hd : r.C.dr = false) (h1 : lenK tl nb0 = true) (h2 : RvArgs tl args0 args) (h3 : RvBL tl bl bl0) (h4 : nodupB (fromJ tl bl0) = true) (h5 : nodupB (bl0.map Bk.j) = true) (h6 : allB (fun e => !e.w) bl0 = true) (h7 : nodupB (bl.map Bk.j) = true) (hf : v.flat = true)
    (hr : Rn X nt k (.put r.C r.o.dst v r.rest r.i) r.S ⟨p, dc, bl, nb, sp, ss⟩ K) : Rn X nt k F S st K := by
  have hw : ∀ e ∈ bl0, e.w = false := by
    intro e he
    have all : ∀ l : BL, allB (fun e => !e.w) l = true → ∀ e ∈ l, e.w = false := by
      intro l
      induction l with
      | nil => intro _ e he; cases he
      | cons a l ih =>
        intro h e he
        simp only [allB, Bool.and_eq_true] at h
        rcases List.mem_cons.1 he with e1 | e1
        · subst e1; simpa using h.1
        · exact ih h.2 e e1
    exact all _ h6 e he
  refine ⟨Run.step hz n hx ⟨Unit, _, _, _, tl, args0, bl0, nb0, c, h1, h2, h3, h4, h5, ?_⟩⟩
  rw [hd]
  intro _
  refine ⟨v, ⟨p, dc, bl, nb, sp, ss⟩, ?_, hr.run⟩
  unfold callSt
  dsimp only
  rw [wFrom_none hw, hd]
  simp only [Bool.false_and, cond_false, delsK, fwdBK, appK, h7, cond_true, jsK, wroteK, wrOK, hd]
  rw [fwdT_flat hf, Nat.sub_self]
  rfl
theorem Rn.call0d (hz : ZeroFlat X) (n : Nat) {g : FuncId} {args args0 : List AV} {bl0 : BL} {nb0 : Nat} {v : AV} {r : Rs} {p : P} {dc : DC} {bl : BL} {nb : Nat} {sp : Tk} {ss : Ts} (hx : exec X nt n F S st = some (.call g args r ⟨p, dc, bl, nb, sp, ss⟩)) (c : Ct0 X g args0 bl0 nb0 v) (tl : List (Option Nat))
    (hd : (r.C.dr && !isW X r.o.op) = true) (h0 : noMask (r.C.bs.getD r.i 0) 0 r.C.ops = true) (h1 : lenK tl nb0 = true) (h2 : RvArgs tl args0 args) (h3 : RvBL tl bl bl0) (h4 : nodupB (fromJ tl bl0) = true) (h5 : nodupB (bl0.map Bk.j) = true) (h6 : allB (fun e => !e.w) bl0 = true) (hf : v.flat = true)
    (hr : Rn X nt k (.put r.C r.o.dst v r.rest r.i) r.S ⟨p, dc, bl, nb, sp, ss⟩ K) : Rn X nt k F S st K := by
  have hw : ∀ e ∈ bl0, e.w = false := by
    intro e he
    have all : ∀ l : BL, allB (fun e => !e.w) l = true → ∀ e ∈ l, e.w = false := by
      intro l
      induction l with
      | nil => intro _ e he; cases he
      | cons a l ih =>
        intro h e he
        simp only [allB, Bool.and_eq_true] at h
        rcases List.mem_cons.1 he with e1 | e1
        · subst e1; simpa using h.1
        · exact ih h.2 e e1
    exact all _ h6 e he
  refine ⟨Run.step hz n hx ⟨Unit, _, _, _, tl, args0, bl0, nb0, c, h1, h2, h3, h4, h5, ?_⟩⟩
  rw [hd]
  exact ⟨h0, hw, fun _ => ⟨hf, hr.run⟩⟩
end

theorem Ct.of {X : Env} (hz : ZeroFlat X) {g : FuncId} {fn : Func} {c : Code} {args : List AV} {bl : BL} {nb : Nat} {A : Type} {V : A → AV} {B : A → BL} {nb' : A → Nat} (hE : X.E g = none) (hF : X.F g = some fn) (hb : fn.body = some c) (hlen : Nat.ble args.length fn.ntmps = true)
    (hr : Rn X fn.ntmps nb (.code c) [] ⟨P.args 0 args, [], bl, nb, [], []⟩ (FinK X fn.results.toList nb A V B nb')) : Ct X g args bl nb A V B nb' := Ct.of_run hz hE hF hb hlen hr.run

/-! ### Functions whose answers are known -/
theorem EnvOK.add {P0 : Program} {X : Env} (hX : EnvOK P0 X) {f : FuncId} {g : List AV → Option AV} {fn : Func} (hF : X.F f = some fn) (hn : fn.body.isNone = false) (hg : ∀ args v, g args = some v → v.flat = true → allB AV.flat args = true ∧ ∃ h', CallsA X f args hE v h') :
    EnvOK P0 { X with E := fun f' => bif Nat.beq f' f then some g else X.E f' } where
  mixed := hX.mixed
  T := hX.T
  eq := hX.eq
  F := hX.F
  E f' g' args v h1 h2 h3 := by
    have h1 : (bif Nat.beq f' f then some g else X.E f') = some g' := h1
    cases hb : Nat.beq f' f with
    | false => rw [hb] at h1; exact hX.E f' g' args v h1 h2 h3
    | true =>
      have := Nat.eq_of_beq_eq_true hb
      subst this
      rw [hb, cond_true] at h1
      injection h1 with h1
      subst h1
      obtain ⟨hPF, hname⟩ := hX.F f' fn hF
      refine ⟨fun vs w => ?_, fun ρ vs w hvs => ?_⟩
      · unfold callFunc
        simp only [Sem.run_bind, Result.andThen_ok]
        have hn' : fn.name ≠ "runtime.NumGoroutine" := by simpa using hname
        have hb' : fn.body ≠ none := by intro h; rw [h] at hn; cases hn
        simp [hPF, hn', hb']
      · obtain ⟨hfl, h', n, hc⟩ := hg args v h2 h3
        obtain ⟨_, hc⟩ := call_ok hX n f' args hE v h' hc
        have hvs0 : LR (avR fun _ => none) args vs.toList := by
          have all : ∀ {l : List AV} {l' : List Value}, allB AV.flat l = true → LR (avR ρ) l l' → LR (avR fun _ => none) l l' := by
            intro l
            induction l with
            | nil => intro l' _ r; cases l' with
              | nil => trivial
              | cons => exact r.elim
            | cons a l ih => intro l' hf r; cases l' with
              | nil => exact r.elim
              | cons b l' =>
                simp only [allB, Bool.and_eq_true] at hf
                exact ⟨flat_rel hf.1 r.1, ih hf.2 r.2⟩
          exact all hfl hvs
        refine (hc (fun _ => none) w vs Rel.emp (Nat.le_refl _) (fun _ _ => rfl) hvs0).mono fun e w' ⟨v', ρ', he, hv, hR, hst, hro, _⟩ => ?_
        exact ⟨v', he, flat_rel h3 hv, hst.os, hst.tape, hst.output, hst.size, fun b hb => hst.keep b hb fun ⟨i, l, p, _, h2, _⟩ => (by rw [hE_get] at h2; cases h2), hst.fz⟩

theorem Ct0.callsE {X : Env} {g : FuncId} {args : List AV} {v : AV} (c : Ct0 X g args [] 0 v) (ha : allB AV.flat args = true) (hv : v.flat = true) : ∃ h', CallsA X g args hE v h' := by
  have self : ∀ {l : List AV}, allB AV.flat l = true → LR (RAV fun _ => none) l l := by
    intro l
    induction l with
    | nil => intro _; trivial
    | cons a l ih =>
      intro h
      simp only [allB, Bool.and_eq_true] at h
      exact ⟨RAV.of_flat h.1, ih h.2⟩
  obtain ⟨v', h', hc, a, σ', _, _, _, _, hr, _⟩ := c (fun _ => none) args hE (self ha) ⟨(fun _ h => by cases h), (fun _ h => by cases h), (fun _ h => by cases h), List.nodup_nil, (fun _ h => by cases h)⟩ (Nat.le_refl _) fun _ _ => rfl
  have := RAV.flat hv hr
  subst this
  exact ⟨h', hc⟩
theorem zeroFlat_tyOf (P0 : Program) (t : TypeId) : allB flatSc (tyOf P0 t).zero = true := by
  unfold tyOf
  split
  · split
    · rename_i z hz
      simp only [Option.bind_eq_some_iff] at hz
      obtain ⟨v, _, hz⟩ := hz
      unfold constCells at hz
      split at hz
      · exact constList_flat hz
      · simp only [Option.map_eq_some_iff] at hz
        obtain ⟨s, hs, rfl⟩ := hz
        simp only [allB, Bool.and_true]
        exact constSc_flat hs
    · rfl
  · rfl

end Go.AM
