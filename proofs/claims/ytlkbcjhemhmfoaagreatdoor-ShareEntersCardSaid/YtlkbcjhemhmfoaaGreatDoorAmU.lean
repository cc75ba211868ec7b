/- What a walk over lists says of the machine: steps. No program here. -/
import Derived.Test.YtlkbcjhemhmfoaaGreatDoorAmR
set_option linter.unusedSimpArgs false
set_option linter.unusedVariables false
namespace Go.AM
open Go

/-! ### Steps, in either order -/
section
variable {X : Env} {nt : Nat} {C : Cx}

noncomputable def SeqD (X : Env) (nt : Nat) (C : Cx) (c i : Nat) (rest : List Oper) (f : FF) (h : H) (σ : Sg) (bl : BL) (sp : Tk) (ss : Ts) (KK : FF → H → Prop) : Prop := match C.dr with
  | false => SeqF X nt c C.ops i rest f h KK
  | true => ∀ SP SS, LR (TkR σ bl h) sp SP → LR (TsR σ bl h) ss SS → DrawF X nt c C.ops C.bs i rest f h SP SS KK
theorem SeqD.seq (hd : C.dr = false) {c i : Nat} {rest : List Oper} {f : FF} {h : H} {σ : Sg} {bl : BL} {sp : Tk} {ss : Ts} {KK : FF → H → Prop} : SeqD X nt C c i rest f h σ bl sp ss KK ↔ SeqF X nt c C.ops i rest f h KK := by unfold SeqD; rw [hd]
theorem SeqD.draw (hd : C.dr = true) {c i : Nat} {rest : List Oper} {f : FF} {h : H} {σ : Sg} {bl : BL} {sp : Tk} {ss : Ts} {KK : FF → H → Prop} : SeqD X nt C c i rest f h σ bl sp ss KK ↔ ∀ SP SS, LR (TkR σ bl h) sp SP → LR (TsR σ bl h) ss SS → DrawF X nt c C.ops C.bs i rest f h SP SS KK := by unfold SeqD; rw [hd]

variable {c i : Nat} {o : Oper} {rest : List Oper} {f f1 : FF} {h h' : H} {σ σ' : Sg} {bl bl' : BL} {sp sp' : Tk} {ss ss' : Ts} {KK : FF → H → Prop}

theorem SeqD.nil (k : KK f h) : SeqD X nt C c i [] f h σ bl sp ss KK := by
  cases hd : C.dr with
  | false => exact (SeqD.seq hd).2 (SeqF.nil k)
  | true => exact (SeqD.draw hd).2 fun _ _ _ _ => DrawF.nil k

/-- An operation that is not wanted. -/
theorem SeqD.skip (hw : wantedF C.ops f o = some false) (hp : putF nt f o.dst undefA = some f1) (hr : SeqD X nt C c (i + 1) rest f1 h σ bl sp ss KK) : SeqD X nt C c i (o :: rest) f h σ bl sp ss KK := by
  cases hd : C.dr with
  | false =>
    rw [SeqD.seq hd] at hr ⊢
    refine SeqF.cons 0 (f1 := f1) (h1 := h) ?_ hr
    unfold stepF
    rw [hw, Option.bind_some, if_neg (by simp), hp]; rfl
  | true =>
    rw [SeqD.draw hd] at hr ⊢
    intro SP SS h1 h2
    refine DrawF.cons 0 (f1 := f1) (h1 := h) (sp1 := SP) (ss1 := SS) ?_ (hr SP SS h1 h2)
    unfold drawStepF
    rw [hw, Option.bind_some, if_neg (by simp), hp]; rfl

theorem SeqD.pure {v' : AV} (hw : wantedF C.ops f o = some true) (hW : isW X o.op = false) (hc : isCall o.op = false) (hN : isN o.op = false) (hL : isL o.op = false) (ha : ∀ h, aop X f.ev h (c + i) o.op = some (v', h)) (hp : putF nt f o.dst v' = some f1) (hr : SeqD X nt C c (i + 1) rest f1 h σ bl sp ss KK) : SeqD X nt C c i (o :: rest) f h σ bl sp ss KK := by
  cases hd : C.dr with
  | false =>
    rw [SeqD.seq hd] at hr ⊢
    refine SeqF.cons 0 (f1 := f1) (h1 := h) ?_ hr
    unfold stepF
    rw [hw, Option.bind_some, if_pos rfl, if_neg (by rw [hc]; simp), ha]
    simp only [Option.bind_some, hp, Option.map_some]
  | true =>
    rw [SeqD.draw hd] at hr ⊢
    intro SP SS h1 h2
    refine DrawF.cons 0 (f1 := f1) (h1 := h) (sp1 := SP) (ss1 := SS) ?_ (hr SP SS h1 h2)
    unfold drawStepF
    rw [hw, Option.bind_some, if_pos rfl, if_neg (by rw [hW]; simp), if_neg (by rw [hc]; simp), if_neg (by rw [hN]; simp)]
    split
    · rename_i t a e; rw [e] at hL; cases hL
    · rw [ha hE]; simp only [Option.bind_some, hp, Option.map_some]

theorem SeqD.new {v' : AV} {l' : List Sc} (hw : wantedF C.ops f o = some true) (hW : isW X o.op = false) (hc : isCall o.op = false) (hN : isN o.op = true) (ha : ∀ h, aop X f.ev h (c + i) o.op = some (v', h.put (c + i) l')) (hp : putF nt f o.dst v' = some f1)
    (ht : C.dr = true → ∀ SP SS, LR (TkR σ bl h) sp SP → LR (TsR σ bl h) ss SS → LR (TkR σ' bl' (h.put (c + i) l')) sp' SP ∧ LR (TsR σ' bl' (h.put (c + i) l')) ss' SS) (hr : SeqD X nt C c (i + 1) rest f1 (h.put (c + i) l') σ' bl' sp' ss' KK) : SeqD X nt C c i (o :: rest) f h σ bl sp ss KK := by
  cases hd : C.dr with
  | false =>
    rw [SeqD.seq hd] at hr ⊢
    refine SeqF.cons 0 (f1 := f1) (h1 := h.put (c + i) l') ?_ hr
    unfold stepF
    rw [hw, Option.bind_some, if_pos rfl, if_neg (by rw [hc]; simp), ha]
    simp only [Option.bind_some, hp, Option.map_some]
  | true =>
    rw [SeqD.draw hd] at hr ⊢
    intro SP SS h1 h2
    obtain ⟨t1, t2⟩ := ht hd SP SS h1 h2
    refine DrawF.cons 0 (f1 := f1) (h1 := h.put (c + i) l') (sp1 := SP) (ss1 := SS) ?_ (hr SP SS t1 t2)
    unfold drawStepF
    rw [hw, Option.bind_some, if_pos rfl, if_neg (by rw [hW]; simp), if_neg (by rw [hc]; simp), if_pos hN, ha hE]
    simp only [Option.bind_some, H.get_put, if_true, hp, Option.map_some]

theorem SeqD.load {t : TypeId} {a : Operand} {b off : Nat} {l : List Sc} {v' : AV} (hw : wantedF C.ops f o = some true) (ho : o.op = .load t a) (hev : f.ev a = .one (.ptr (some (b, off)))) (hty : (X.T t).ty.isNone = false) (hl : h.load b off (X.T t).size = some l) (hv : mkAV (X.T t).isAgg l = some v')
    (hp : putF nt f o.dst v' = some f1) (hb : C.dr = true → (b < c ∨ c + C.ops.length ≤ b ∨ (C.bs.getD i 0).testBit (b - c) = true)) (hs : C.dr = true → ∀ SS, LR (TsR σ bl h) ss SS → sameBefore (C.bs.getD i 0) b off l SS = true)
    (ht : C.dr = true → ∀ SP SS, LR (TkR σ bl h) sp SP → LR (TsR σ bl h) ss SS → LR (TkR σ' bl' h) sp' (⟨i, b, off, l⟩ :: SP) ∧ LR (TsR σ' bl' h) ss' SS) (hr : SeqD X nt C c (i + 1) rest f1 h σ' bl' sp' ss' KK) : SeqD X nt C c i (o :: rest) f h σ bl sp ss KK := by
  cases hd : C.dr with
  | false =>
    rw [SeqD.seq hd] at hr ⊢
    refine SeqF.cons 0 (f1 := f1) (h1 := h) ?_ hr
    unfold stepF
    rw [hw, Option.bind_some, if_pos rfl, if_neg (by rw [ho]; simp [isCall]), ho]
    simp only [aop, hev, hty, Bool.false_eq_true, if_false, hl, Option.bind_some, hv, Option.map_some, hp]
  | true =>
    rw [SeqD.draw hd] at hr ⊢
    intro SP SS h1 h2
    obtain ⟨t1, t2⟩ := ht hd SP SS h1 h2
    refine DrawF.cons 0 (f1 := f1) (h1 := h) (sp1 := ⟨i, b, off, l⟩ :: SP) (ss1 := SS) ?_ (hr _ SS t1 t2)
    unfold drawStepF
    rw [hw, Option.bind_some, if_pos rfl, if_neg (by rw [ho]; simp [isW]), if_neg (by rw [ho]; simp [isCall]), if_neg (by rw [ho]; simp [isN]), ho]
    simp only [hev, hty, Bool.false_eq_true, if_false]
    rw [if_pos (hb hd), hl]
    simp only [Option.bind_some, hs hd SS h2, if_true, hv, hp, Option.map_some]

theorem maskOf_nil {ops : List Oper} {bi : Nat} (hm : noMask bi 0 ops = true) : maskOf ops bi = [] := by
  have all : ∀ (l : List Oper) (k : Nat), noMask bi k l = true → ∀ j o, l[j]? = some o → (isN o.op && !bi.testBit (k + j)) = false := by
    intro l
    induction l with
    | nil => intro k _ j o hj; simp at hj
    | cons a l ih =>
      intro k hk j o hj
      unfold noMask at hk
      rw [Bool.and_eq_true, Bool.or_eq_true] at hk
      cases j with
      | zero =>
        simp at hj; subst hj
        rcases hk.1 with h1 | h1
        · have h1 : isN a.op = false := by simpa using h1
          rw [h1]; rfl
        · rw [Nat.add_zero, h1]; simp
      | succ j =>
        have := ih (k + 1) hk.2 j o (by simpa using hj)
        rw [show k + (j + 1) = k + 1 + j by omega]; exact this
  unfold maskOf
  rw [List.filter_eq_nil_iff]
  intro j hj
  have hj := List.mem_range.1 hj
  have := all ops 0 hm j ops[j] (List.getElem?_eq_getElem hj)
  rw [Nat.zero_add] at this
  rw [List.getD_eq_getElem?_getD, List.getElem?_eq_getElem hj]
  simpa using this

/-- An operation that writes. -/
theorem SeqD.write {v' : AV} (hw : wantedF C.ops f o = some true) (hW : isW X o.op = true) (hc : isCall o.op = false) (ha : aop X f.ev h (c + i) o.op = some (v', h')) (hp : putF nt f o.dst v' = some f1)
    (hm : C.dr = true → noMask (C.bs.getD i 0) 0 C.ops = true) (hs : C.dr = true → ∀ SP, LR (TkR σ bl h) sp SP → sameLoads (C.bs.getD i 0) h' SP = true)
    (ht : C.dr = true → ∀ SP SS, LR (TkR σ bl h) sp SP → LR (TsR σ bl h) ss SS → LR (TkR σ' bl' h') sp' SP ∧ LR (TsR σ' bl' h') ss' (⟨i, h⟩ :: SS)) (hr : SeqD X nt C c (i + 1) rest f1 h' σ' bl' sp' ss' KK) : SeqD X nt C c i (o :: rest) f h σ bl sp ss KK := by
  cases hd : C.dr with
  | false =>
    rw [SeqD.seq hd] at hr ⊢
    refine SeqF.cons 0 (f1 := f1) (h1 := h') ?_ hr
    unfold stepF
    rw [hw, Option.bind_some, if_pos rfl, if_neg (by rw [hc]; simp), ha]
    simp only [Option.bind_some, hp, Option.map_some]
  | true =>
    rw [SeqD.draw hd] at hr ⊢
    intro SP SS h1 h2
    obtain ⟨t1, t2⟩ := ht hd SP SS h1 h2
    refine DrawF.cons 0 (f1 := f1) (h1 := h') (sp1 := SP) (ss1 := ⟨i, h⟩ :: SS) ?_ (hr SP _ t1 t2)
    unfold drawStepF
    rw [hw, Option.bind_some, if_pos rfl, if_pos hW, if_neg (by rw [hc]; simp), maskOf_nil (hm hd)]
    simp only [maskH, unmaskH, ha, Option.bind_some, hs hd SP h1, if_true, hp, Option.map_some]

/-- A call that may write. -/
theorem SeqD.callW {g : FuncId} {args : List AV} {v' : AV} (hw : wantedF C.ops f o = some true) (hc : isCall o.op = true) (hcal : callee f.ev o.op = some (g, args)) (ha : CallsA X g args h v' h') (hp : putF nt f o.dst v' = some f1)
    (hW : C.dr = true → isW X o.op = true) (hm : C.dr = true → noMask (C.bs.getD i 0) 0 C.ops = true) (hs : C.dr = true → ∀ SP, LR (TkR σ bl h) sp SP → sameLoads (C.bs.getD i 0) h' SP = true)
    (ht : C.dr = true → ∀ SP SS, LR (TkR σ bl h) sp SP → LR (TsR σ bl h) ss SS → LR (TkR σ' bl' h') sp' SP ∧ LR (TsR σ' bl' h') ss' (⟨i, h⟩ :: SS)) (hr : SeqD X nt C c (i + 1) rest f1 h' σ' bl' sp' ss' KK) : SeqD X nt C c i (o :: rest) f h σ bl sp ss KK := by
  obtain ⟨n, ha⟩ := ha
  cases hd : C.dr with
  | false =>
    rw [SeqD.seq hd] at hr ⊢
    refine SeqF.cons n (f1 := f1) (h1 := h') ?_ hr
    unfold stepF
    rw [hw, Option.bind_some, if_pos rfl, if_pos hc, hcal]
    simp only [Option.bind_some, ha, hp, Option.map_some]
  | true =>
    rw [SeqD.draw hd] at hr ⊢
    intro SP SS h1 h2
    obtain ⟨t1, t2⟩ := ht hd SP SS h1 h2
    refine DrawF.cons n (f1 := f1) (h1 := h') (sp1 := SP) (ss1 := ⟨i, h⟩ :: SS) ?_ (hr SP _ t1 t2)
    unfold drawStepF
    rw [hw, Option.bind_some, if_pos rfl, if_pos (hW hd), if_pos hc, maskOf_nil (hm hd), hcal]
    simp only [maskH, unmaskH, Option.bind_some, ha, hs hd SP h1, if_true, hp, Option.map_some]

/-- A call that writes nothing, in a region whose order is drawn. -/
theorem SeqD.callD {g : FuncId} {args : List AV} {v' : AV} {h2 : H} (hd : C.dr = true) (hw : wantedF C.ops f o = some true) (hc : isCall o.op = true) (hcal : callee f.ev o.op = some (g, args)) (hW : isW X o.op = false) (hm : noMask (C.bs.getD i 0) 0 C.ops = true) (ha : CallsA X g args { h with ro := h.nx } v' h2)
    (hf : v'.flat = true) (hp : putF nt f o.dst v' = some f1) (hr : SeqD X nt C c (i + 1) rest f1 h σ bl sp ss KK) : SeqD X nt C c i (o :: rest) f h σ bl sp ss KK := by
  obtain ⟨n, ha⟩ := ha
  rw [SeqD.draw hd] at hr ⊢
  intro SP SS h1 h2
  refine DrawF.cons n (f1 := f1) (h1 := h) (sp1 := SP) (ss1 := SS) ?_ (hr SP SS h1 h2)
  unfold drawStepF
  rw [hw, Option.bind_some, if_pos rfl, if_neg (by rw [hW]; simp), if_pos hc, maskOf_nil hm, hcal]
  simp only [maskH, Option.bind_some, ha, hf, if_true, hp, Option.map_some]
end

/-! ### What has been seen, behind a step -/
theorem LR.imp {α β α' : Type} {R : α → β → Prop} {R' : α' → β → Prop} {g : α → α'} (hr : ∀ x y, R x y → R' (g x) y) : ∀ {xs : List α} {ys : List β}, LR R xs ys → LR R' (xs.map g) ys
  | [], [], _ => trivial
  | _ :: _, _ :: _, h => ⟨hr _ _ h.1, LR.imp hr h.2⟩
  | [], _ :: _, h => h.elim
  | _ :: _, [], h => h.elim

/-- What is not among 'mods' is as it was. -/
structure Kept (mods : List Nat) (σ σ' : Sg) (bl bl' : BL) (h h' : H) : Prop where
  a : ∀ e ∈ bl, memN e.j mods = false → e ∈ bl'
  b : ∀ e ∈ bl', memN e.j mods = false → e ∈ bl
  c : ∀ e ∈ bl, memN e.j mods = false → ∀ x, (Foot σ' h' e x ↔ Foot σ h e x) ∧ (Foot σ h e x → h'.get x = h.get x)
theorem Kept.refl (σ : Sg) (bl : BL) (h : H) : Kept [] σ σ bl bl h h := ⟨fun _ h _ => h, fun _ h _ => h, fun _ _ _ _ => ⟨Iff.rfl, fun _ => rfl⟩⟩

def staleT (mods : List Nat) (t : Nat × Nat × Bool) : Nat × Nat × Bool := (t.1, t.2.1, t.2.2 || memN t.2.1 mods)
def modsT (mods : List Nat) (t : Nat × List Nat) : Nat × List Nat := (t.1, mods ++ t.2)
theorem staleK_ok {ρ : Type} {r : ρ} {mods : List Nat} : ∀ {l : Tk} {k : Tk → Option ρ}, staleK mods l k = some r → k (l.map (staleT mods)) = some r
  | [], k, h => h
  | (i, j, s) :: l, k, h => by
    unfold staleK at h
    rw [List.map_cons]
    cases hs : (s || memN j mods) with
    | true =>
      rw [hs, cond_true] at h
      have := staleK_ok h
      unfold staleT
      dsimp only
      rw [hs]; exact this
    | false =>
      rw [hs, cond_false] at h
      have := staleK_ok h
      unfold staleT
      dsimp only
      rw [hs]; exact this
theorem modsK_ok {ρ : Type} {r : ρ} {mods : List Nat} : ∀ {l : Ts} {k : Ts → Option ρ}, modsK mods l k = some r → k (l.map (modsT mods)) = some r
  | [], k, h => h
  | (i, ms) :: l, k, h => by
    unfold modsK at h
    exact appK_ok (modsK_ok h)

theorem Kept.tk {mods : List Nat} {σ σ' : Sg} {bl bl' : BL} {h h' : H} (x : Kept mods σ σ' bl bl' h h') {sp : Tk} {SP : List Lo} (r : LR (TkR σ bl h) sp SP) : LR (TkR σ' bl' h') (sp.map (staleT mods)) SP :=
  r.imp fun t lo ⟨h1, h2⟩ => ⟨h1, fun hs => by
    unfold staleT at hs
    dsimp only at hs
    rw [Bool.or_eq_false_iff] at hs
    obtain ⟨e, he, hj, hf, hl⟩ := h2 hs.1
    have hm : memN e.j mods = false := by rw [hj]; exact hs.2
    obtain ⟨k1, k2⟩ := x.c e he hm lo.b
    exact ⟨e, x.a e he hm, hj, k1.2 hf, load_get2 (k2 hf) hl⟩⟩
theorem Kept.ts {mods : List Nat} {σ σ' : Sg} {bl bl' : BL} {h h' : H} (x : Kept mods σ σ' bl bl' h h') {ss : Ts} {SS : List Sn} (r : LR (TsR σ bl h) ss SS) : LR (TsR σ' bl' h') (ss.map (modsT mods)) SS :=
  r.imp fun t sn ⟨h1, h2⟩ => ⟨h1, fun e he hm y hy => by
    unfold modsT at hm
    dsimp only at hm
    rw [memN_append, Bool.or_eq_false_iff] at hm
    have he' := x.b e he hm.1
    obtain ⟨k1, k2⟩ := x.c e he' hm.1 y
    have hf := k1.1 hy
    rw [h2 e he' hm.2 y hf, k2 hf]⟩
theorem Kept.now {mods : List Nat} {σ σ' : Sg} {bl bl' : BL} {h h' : H} (x : Kept mods σ σ' bl bl' h h') (i : Nat) : TsR σ' bl' h' (i, mods) ⟨i, h⟩ :=
  ⟨rfl, fun e he hm y hy => by
    have he' := x.b e he hm
    obtain ⟨k1, k2⟩ := x.c e he' hm y
    exact (k2 (k1.1 hy)).symm⟩
theorem Kept.loads {mods : List Nat} {σ σ' : Sg} {bl bl' : BL} {h h' : H} (x : Kept mods σ σ' bl bl' h h') {C : Cx} {i : Nat} {sp : Tk} (hd : C.dr = true) (hw : wrOK C i mods sp = true) {SP : List Lo} (r : LR (TkR σ bl h) sp SP) : sameLoads (C.bs.getD i 0) h' SP = true := by
  unfold wrOK at hw
  rw [hd, cond_true, Bool.and_eq_true] at hw
  replace hw := hw.2
  unfold sameLoads
  induction sp generalizing SP with
  | nil => cases SP with
    | nil => rfl
    | cons => exact r.elim
  | cons t sp ih => cases SP with
    | nil => exact r.elim
    | cons lo SP =>
      simp only [allB, Bool.and_eq_true] at hw ⊢
      refine ⟨?_, ih r.2 hw.2⟩
      obtain ⟨h1, h2⟩ := r.1
      rw [h1]
      have := hw.1
      rw [Bool.or_eq_true] at this ⊢
      rcases this with h3 | h3
      · exact .inl h3
      · refine .inr ?_
        rw [Bool.and_eq_true, Bool.not_eq_true', Bool.not_eq_true'] at h3
        obtain ⟨e, he, hj, hf, hl⟩ := h2 h3.1
        have hm : memN e.j mods = false := by rw [hj]; exact h3.2
        rw [decide_eq_true_iff]
        exact load_get2 ((x.c e he hm lo.b).2 hf) hl

theorem wroteK_ok {ρ : Type} {r : ρ} {C : Cx} {i : Nat} {mods : List Nat} {sp : Tk} {ss : Ts} {k : Tk → Ts → Option ρ} (h : wroteK C i mods sp ss k = some r) : wrOK C i mods sp = true ∧ ∃ sp' ss', k sp' ss' = some r ∧ (C.dr = true → sp' = sp.map (staleT mods) ∧ ss' = (i, mods) :: ss.map (modsT mods)) := by
  unfold wroteK at h
  cases hw : wrOK C i mods sp with
  | false => rw [hw] at h; cases h
  | true =>
    rw [hw, cond_true] at h
    refine ⟨rfl, ?_⟩
    cases hd : C.dr with
    | false => rw [hd, cond_false] at h; exact ⟨sp, ss, h, fun h => by cases h⟩
    | true =>
      rw [hd, cond_true] at h
      have := modsK_ok (staleK_ok h)
      exact ⟨_, _, this, fun _ => ⟨rfl, rfl⟩⟩
theorem newK_ok {ρ : Type} {r : ρ} {C : Cx} {nb : Nat} {ss : Ts} {k : Ts → Option ρ} (h : newK C nb ss k = some r) : ∃ ss', k ss' = some r ∧ (C.dr = true → ss' = ss.map (modsT [nb])) := by
  unfold newK at h
  cases hd : C.dr with
  | false => rw [hd, cond_false] at h; exact ⟨ss, h, fun h => by cases h⟩
  | true => rw [hd, cond_true] at h; exact ⟨_, modsK_ok h, fun _ => rfl⟩
/-- Nothing that has been loaded is at the new place. -/
theorem tk_new {σ : Sg} {bl : BL} {h : H} {nb : Nat} (hlt : ∀ e ∈ bl, e.j < nb) {sp : Tk} {SP : List Lo} {σ' : Sg} {bl' : BL} {h' : H} (x : Kept [nb] σ σ' bl bl' h h') (r : LR (TkR σ bl h) sp SP) : LR (TkR σ' bl' h') sp SP := by
  refine r.mono fun t lo ⟨h1, h2⟩ => ⟨h1, fun hs => ?_⟩
  obtain ⟨e, he, hj, hf, hl⟩ := h2 hs
  have hm : memN e.j [nb] = false := by
    cases hb : memN e.j [nb] with
    | false => rfl
    | true =>
      have := memN_iff.1 hb
      simp at this
      have := hlt e he
      omega
  obtain ⟨k1, k2⟩ := x.c e he hm lo.b
  exact ⟨e, x.a e he hm, hj, k1.2 hf, load_get2 (k2 hf) hl⟩

theorem wr_mask {C : Cx} {i : Nat} {mods : List Nat} {sp : Tk} (hd : C.dr = true) (hw : wrOK C i mods sp = true) : noMask (C.bs.getD i 0) 0 C.ops = true := by
  unfold wrOK at hw
  rw [hd, cond_true, Bool.and_eq_true] at hw
  exact hw.1

end Go.AM
