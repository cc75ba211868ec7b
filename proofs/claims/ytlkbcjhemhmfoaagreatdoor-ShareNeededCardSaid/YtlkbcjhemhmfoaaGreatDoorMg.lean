/- The executor is sound; the rules of a walk. -/
import Derived.Test.YtlkbcjhemhmfoaaGreatDoorMf
section
/- What a walk over lists says of the machine: bodies, and calls. No program here. -/
set_option linter.unusedSimpArgs false
set_option linter.unusedVariables false
namespace Go.AM
open Go

section
variable {X : Env} {nt k : Nat} {C : Cx} {o : Oper} {rest : List Oper} {i : Nat} {S : List Kt} {p : P} {dc : DC} {bl : BL} {nb : Nat} {sp : Tk} {ss : Ts} {K : KC}

/-- An address of an element. -/
theorem Run.opIdx {t : TypeId} {x iv : Operand} {e : TypeId} {j off n sz : Nat} {full : Bool} {ik : IntKind} {z : Int} (ho : o.op = .indexAddr t x iv) (hty : (X.T t).ty = .slice e) (hx : P.ev p x = .one (.sl (some (j, off)) n full sz)) (hi : P.ev p iv = .one (.int ik z)) (hsz : sz = (X.T e).size) (h0 : 0 < (X.T e).size) (hz : 0 ≤ z ∧ z < n)
    (hr : Run X nt k (.put C o.dst (.one (.ptr (some (j, off + z.toNat * sz)))) rest i) S ⟨p, dc, bl, nb, sp, ss⟩ K) : Run X nt k (.op C o rest i) S ⟨p, dc, bl, nb, sp, ss⟩ K := by
  refine Run.opPure (by rw [ho]; rfl) (by rw [ho]; rfl) (by rw [ho]; rfl) (by rw [ho]; rfl) (fun σ ev' he => ?_) hr
  have rx := he x
  rw [hx] at rx
  have ri := he iv
  rw [hi] at ri
  have ri := RAV.flat (v := .one (.int ik z)) rfl ri
  obtain ⟨s', ex, r⟩ := rx
  rcases r with ⟨b, hb, rfl⟩ | ⟨_, hn, _⟩
  · refine ⟨.one (.ptr (some (b, off + z.toNat * sz))), ⟨_, rfl, _, rfl, b, hb, rfl⟩, fun h id => ?_⟩
    rw [ho]
    simp only [aop, ex, ri, aindex, hty]
    rw [if_pos ⟨hz.1, hz.2, hsz, hsz ▸ h0⟩]; rfl
  · omega

theorem numB_of {v : AV} {k : IntKind} {z : Int} {n : Nat} (hv : v = .one (.int k z)) (h1 : 0 ≤ z) (h2 : z ≤ n) : numB v n = some z.toNat := by
  subst hv
  simp only [numB]
  rw [if_pos ⟨h1, h2⟩]
theorem allB_imp {α : Type} {p q : α → Bool} (h : ∀ x, p x = true → q x = true) : ∀ {l : List α}, allB p l = true → allB q l = true
  | [], _ => rfl
  | x :: l, hl => by
    simp only [allB, Bool.and_eq_true] at hl ⊢
    exact ⟨h x hl.1, allB_imp h hl.2⟩
theorem isP_kinds {X : Env} {ev : Operand → AV} {op : Op} (h : isP ev op = true) : isW X op = false ∧ isCall op = false ∧ isN op = false ∧ isL op = false := by
  cases op with
  | call c =>
    obtain ⟨cal, args, ts⟩ := c
    cases cal with
    | builtin b => cases b <;> simp [isP] at h <;> exact ⟨rfl, rfl, rfl, rfl⟩
    | _ => simp [isP] at h
  | _ => first | exact ⟨rfl, rfl, rfl, rfl⟩ | simp [isP] at h
/-- What a bound is. -/
theorem bdI_ok {p : P} {d : Int} {lo : Option Operand} {l : Int} (h : bdI p d lo = some l) : (lo = none ∧ l = d) ∨ ∃ x k, lo = some x ∧ P.ev p x = .one (.int k l) := by
  unfold bdI at h
  split at h
  · injection h with h; exact .inl ⟨rfl, h.symm⟩
  · rename_i x
    split at h
    · rename_i k z e
      injection h with h
      subst h
      exact .inr ⟨x, k, rfl, e⟩
    · cases h
theorem bounds_ok {p : P} {σ : Sg} {ev' : Operand → AV} (he : ∀ x, RAV σ (P.ev p x) (ev' x)) {n : Nat} {lo hi mx : Option Operand} {l h m : Int} (h1 : bdI p 0 lo = some l) (h2 : bdI p n hi = some h) (h3 : bdI p n mx = some m) (hm : mx.isSome = true → hi.isSome = true) (hb : 0 ≤ l ∧ l ≤ h ∧ h ≤ m ∧ m ≤ n) :
    bounds n (lo.map ev') (hi.map ev') (mx.map ev') = some (l.toNat, h.toNat, mx.map fun _ => m.toNat) := by
  have real : ∀ {x : Operand} {k : IntKind} {z : Int}, P.ev p x = .one (.int k z) → ev' x = .one (.int k z) := fun {x k z} e => by
    have := he x
    rw [e] at this
    exact RAV.flat (v := .one (.int k z)) rfl this
  have low : ∀ top : Nat, l ≤ top → lowB (lo.map ev') top = some l.toNat := fun top ht => by
    rcases bdI_ok h1 with ⟨rfl, rfl⟩ | ⟨x, k, rfl, e⟩
    · rfl
    · exact numB_of (real e) hb.1 ht
  rcases bdI_ok h3 with ⟨rfl, rfl⟩ | ⟨xm, km, rfl, em⟩
  · rcases bdI_ok h2 with ⟨rfl, rfl⟩ | ⟨xh, kh, rfl, eh⟩
    · simp only [bounds, Option.map_none]
      rw [low n (by omega)]
      simp
    · simp only [bounds, Option.map_none, Option.map_some]
      rw [numB_of (real eh) (by omega) (by omega), Option.bind_some, low _ (by omega)]
      rfl
  · rcases bdI_ok h2 with ⟨rfl, rfl⟩ | ⟨xh, kh, rfl, eh⟩
    · exact absurd (hm rfl) (by simp)
    · simp only [bounds, Option.map_some]
      rw [numB_of (real em) (by omega) (by omega), Option.bind_some, numB_of (real eh) (by omega) (by omega), Option.bind_some, low _ (by omega)]
      rfl

theorem oexec_ok (hz : ZeroFlat X) {kk : KO} {ev : Ev} (hx : oexec X C i o rest S ⟨p, dc, bl, nb, sp, ss⟩ kk = some ev) (hk : ∀ v st', kk v st' = some ev → Run X nt k (.put C o.dst v rest i) S st' K) (he : EvH X nt k K ev) : Run X nt k (.op C o rest i) S ⟨p, dc, bl, nb, sp, ss⟩ K := by
  unfold oexec at hx
  dsimp only at hx
  split at hx
  · -- load
    rename_i t a ho
    split at hx
    · rename_i j off hpa
      cases hty : (X.T t).ty.isNone with
      | true => rw [hty] at hx; cases hx
      | false =>
        rw [hty, cond_false] at hx
        obtain ⟨w, born, c, hmem, hx⟩ := blk_ok hx
        cases hld : ldOK C i born j ss with
        | false => rw [hld] at hx; cases hx
        | true =>
          rw [hld, cond_true] at hx
          split at hx
          · rename_i l
            obtain ⟨h1, hx⟩ := dropK_ok hx
            obtain ⟨h2, hx⟩ := takeK_ok hx
            obtain ⟨v, hv, hx⟩ := mkK_ok hx
            refine Run.opLoad ho hpa hty hmem rfl hld (fun σ h b hb hent => ?_) (hk v _ hx)
            unfold Ent at hent
            rw [show (⟨j, w, born, .ex l⟩ : Bk).j = j from rfl, hb] at hent
            obtain ⟨l', h3, h4⟩ := hent
            obtain ⟨v', hv', rv⟩ := mkAV_rel2 hv ((h4.drop off).take (X.T t).size)
            refine ⟨?_, _, v', H.load_of h3 ?_, hv', rv⟩
            · unfold Foot; rw [show (⟨j, w, born, .ex l⟩ : Bk).j = j from rfl, hb]
            · have := h4.length; rw [List.length_drop] at h2; omega
          · rename_i l
            injection hx with hx
            subst hx
            obtain ⟨v, ⟨h1, h2, h3⟩, hr⟩ := he
            refine Run.opLoad ho hpa hty hmem rfl hld (fun σ h b hb hent => ?_) hr
            unfold Ent at hent
            rw [show (⟨j, w, born, .raw l⟩ : Bk).j = j from rfl, hb] at hent
            exact ⟨by unfold Foot; rw [show (⟨j, w, born, .raw l⟩ : Bk).j = j from rfl, hb], _, v, H.load_of hent h1, h2, RAV.of_flat h3⟩
          · rename_i r
            split at hx
            · cases w with
              | true =>
                injection hx with hx
                subst hx
                exact he
              | false =>
                injection hx with hx
                subst hx
                rcases he with ⟨v, ⟨h1, h2⟩, hr⟩ | ⟨h1, h2, h3, m, full, sz, cs, hrow, st', hst, hr⟩
                · refine Run.opLoad ho hpa hty hmem rfl hld (fun σ h b hb hent => ?_) hr
                  unfold Ent at hent
                  rw [show (⟨j, false, none, .res r⟩ : Bk).j = j from rfl, hb] at hent
                  obtain ⟨h3, l, h4, h5⟩ := h2 b h hent
                  exact ⟨by unfold Foot; rw [show (⟨j, false, none, .res r⟩ : Bk).j = j from rfl, hb]; exact h3, l, v, h4, h5, RAV.of_flat h1⟩
                · exact Run.opRow ho hpa hty h2 h3 hmem h1 hld hrow hst hr
            · cases hx
    · cases hx
  · -- store
    rename_i t a x ho
    split at hx
    · rename_i j off hpa
      cases hty : (X.T t).ty.isNone with
      | true => rw [hty] at hx; cases hx
      | false =>
        rw [hty, cond_false] at hx
        split at hx
        · rename_i xs hxs
          cases hl : lenK xs (X.T t).size with
          | false => rw [hl] at hx; cases hx
          | true =>
            rw [hl, cond_true] at hx
            obtain ⟨w, born, c, hmem, hx⟩ := blk_ok hx
            cases w with
            | false => cases hx
            | true =>
              rw [cond_true] at hx
              split at hx
              · rename_i l
                obtain ⟨h1, hx⟩ := setK_ok hx
                obtain ⟨bl1, w1, b1, c1, bl2, hbl, hx⟩ := updK_ok hx
                obtain ⟨hwr, sp', ss', hx, htr⟩ := wroteK_ok hx
                have hr := hk _ _ hx
                -- the entry is the one that was found
                intro G hG Q hK c' σ f h s g dcr hlen hw
                have s' : SI G σ p bl nb f h := s
                have : (⟨j, w1, b1, c1⟩ : Bk) = ⟨j, true, born, .ex l⟩ := s'.ok.same (by rw [hbl]; simp) hmem rfl
                injection this with _ e1 e2 e3
                subst e1; subst e2; subst e3
                exact Run.opStore ho hpa hty hxs (lenK_ok hl) hbl (.inl ⟨l, _, rfl, rfl, h1, rfl⟩) hwr htr hr G hG Q hK c' σ f h s g dcr hlen hw
              · rename_i l
                cases hfl : allB flatSc xs with
                | false => rw [hfl] at hx; cases hx
                | true =>
                  rw [hfl, cond_true] at hx
                  obtain ⟨hwr, sp', ss', hx, htr⟩ := wroteK_ok hx
                  injection hx with hx
                  subst hx
                  obtain ⟨l', ⟨h1, h2⟩, st', hst, hr⟩ := he
                  unfold updSt at hst
                  obtain ⟨bl1, w1, b1, c1, bl2, hbl, hst⟩ := updK_ok hst
                  injection hst with hst
                  subst hst
                  intro G hG Q hK c' σ f h s g dcr hlen hw
                  have s' : SI G σ p bl nb f h := s
                  have : (⟨j, w1, b1, c1⟩ : Bk) = ⟨j, true, born, .raw l⟩ := s'.ok.same (by rw [hbl]; simp) hmem rfl
                  injection this with _ e1 e2 e3
                  subst e1; subst e2; subst e3
                  exact Run.opStore ho hpa hty hxs (lenK_ok hl) hbl (.inr ⟨l, l', rfl, rfl, hfl, h1, h2⟩) hwr htr hr G hG Q hK c' σ f h s g dcr hlen hw
              · injection hx with hx
                subst hx
                exact he
        · cases hx
    · cases hx
  · -- alloc
    rename_i t ho
    cases hty : (X.T t).ty.isNone with
    | true => rw [hty] at hx; cases hx
    | false =>
      rw [hty, cond_false] at hx
      obtain ⟨ss', hx, hss⟩ := newK_ok hx
      refine Run.opNew (v := .one (.ptr (some (nb, 0)))) (by rw [ho]; rfl) (by rw [ho]; rfl) (by rw [ho]; rfl) (fun id => .one (.ptr (some (id, 0)))) (fun σ ev' he' => ⟨(X.T t).zero, .inl ⟨_, rfl, LR.of_flat (hz t)⟩, fun h id => ?_⟩) (fun τ b hb => ⟨_, rfl, _, rfl, b, hb, rfl⟩) hss (hk _ _ hx)
      rw [ho]
      simp only [aop, hty, Bool.false_eq_true, if_false]
  · -- box
    rename_i t x ho
    split at hx
    · rename_i l hl
      obtain ⟨ss', hx, hss⟩ := newK_ok hx
      refine Run.opNew (v := .one (.ptr (some (nb, 0)))) (by rw [ho]; rfl) (by rw [ho]; rfl) (by rw [ho]; rfl) (fun id => .one (.ptr (some (id, 0)))) (fun σ ev' he' => ?_) (fun τ b hb => ⟨_, rfl, _, rfl, b, hb, rfl⟩) hss (hk _ _ hx)
      obtain ⟨l', h1, h2⟩ := cells_rel2 hl (he' x)
      refine ⟨l', .inl ⟨_, rfl, h2⟩, fun h id => ?_⟩
      rw [ho]
      simp only [aop, h1, Option.map_some]
    · cases hx
  · -- build
    rename_i t parts ho
    split at hx
    · rename_i fs hty
      cases hal : allB (fun p => Nat.blt 0 (X.T p.2).size) fs with
      | false => rw [hal] at hx; cases hx
      | true =>
        rw [hal, cond_true] at hx
        obtain ⟨l, hl, hx⟩ := fillK_ok hx
        refine Run.opPure (by rw [ho]; rfl) (by rw [ho]; rfl) (by rw [ho]; rfl) (by rw [ho]; rfl) (fun σ ev' he' => ?_) (hk _ _ hx)
        obtain ⟨l', h1, h2⟩ := fills_rel _ he' _ _ _ _ (LR.of_flat (hz t)) hl
        refine ⟨.agg l', ⟨l', rfl, h2⟩, fun h id => ?_⟩
        have hal' : allB (fun p => decide (0 < (X.T p.2).size)) fs = true := allB_imp (fun p hp => decide_eq_true (Nat.le_of_ble_eq_true hp)) hal
        have hpl : (fun i => match nth fs i with | some p => some (p.1, (X.T p.2).size) | none => none) = fun i => fs[i]?.map fun p => (p.1, (X.T p.2).size) := by
          funext i
          rw [nth_eq]
          cases fs[i]? <;> rfl
        have h1' := Eq.trans (congrArg (fun g => fills g (X.T t).zero (parts.toList.map fun (i, x) => (i, ev' x))) hpl.symm) h1
        rw [ho]
        simp only [aop, hty]
        rw [if_pos hal', h1']; rfl
    · cases hx
  · -- buildSlice
    rename_i t len parts ho
    split at hx
    · rename_i e hty
      cases hal : (Nat.ble (len * (X.T e).size) 1000000 && Nat.blt 0 (X.T e).size && lenK (X.T e).zero (X.T e).size && !(X.T e).ty.isNone) with
      | false => rw [hal] at hx; cases hx
      | true =>
        rw [hal, cond_true] at hx
        have hx := repK_ok hx
        rw [← zeros_reps] at hx
        obtain ⟨l, hl, hx⟩ := fillK_ok hx
        obtain ⟨ss', hx, hss⟩ := newK_ok hx
        simp only [Bool.and_eq_true, Bool.not_eq_true'] at hal
        obtain ⟨⟨⟨a1, a2⟩, a3⟩, a4⟩ := hal
        have hzf : allB flatSc (zeros len (X.T e).zero) = true := by
          rw [zeros_reps]
          have all : ∀ n, allB flatSc (reps (X.T e).zero n) = true := fun n => by
            induction n with
            | zero => rfl
            | succ n ih => exact allB_append (hz e) ih
          exact all len
        refine Run.opNew (v := .one (.sl (some (nb, 0)) len true (X.T e).size)) (by rw [ho]; rfl) (by rw [ho]; rfl) (by rw [ho]; rfl) (fun id => .one (.sl (some (id, 0)) len true (X.T e).size)) (fun σ ev' he' => ?_) (fun τ b hb => ⟨_, rfl, .inl ⟨b, hb, rfl⟩⟩) hss (hk _ _ hx)
        obtain ⟨l', h1, h2⟩ := fills_rel _ he' _ _ _ _ (LR.of_flat hzf) hl
        refine ⟨l', .inl ⟨_, rfl, h2⟩, fun h id => ?_⟩
        rw [ho]
        simp only [aop, hty]
        rw [if_pos ⟨Nat.le_of_ble_eq_true a1, Nat.le_of_ble_eq_true a2, lenK_ok a3, a4⟩, h1]; rfl
    · cases hx
  · -- makeSlice
    rename_i t l0 c0 ho
    split at hx
    · rename_i e hty
      split at hx
      · rename_i k1 n k2 m e1 e2
        cases hal : (lenK (X.T e).zero (X.T e).size && !(X.T e).ty.isNone) with
        | false => rw [hal] at hx; cases hx
        | true =>
          rw [hal, cond_true] at hx
          obtain ⟨ss', hx, hss⟩ := newK_ok hx
          injection hx with hx
          subst hx
          obtain ⟨⟨b1, b2, b3, b4⟩, hr⟩ := he
          subst b2
          rw [Bool.and_eq_true, Bool.not_eq_true'] at hal
          refine Run.opNew (v := .one (.sl (some (nb, 0)) n.toNat true (X.T e).size)) (by rw [ho]; rfl) (by rw [ho]; rfl) (by rw [ho]; rfl) (fun id => .one (.sl (some (id, 0)) n.toNat true (X.T e).size)) (fun σ ev' he' => ⟨_, .inr rfl, fun h id => ?_⟩) (fun τ b hb => ⟨_, rfl, .inl ⟨b, hb, rfl⟩⟩) hss hr
          have r1 := he' l0
          rw [e1] at r1
          have r1 := RAV.flat (v := .one (.int k1 n)) rfl r1
          have r2 := he' c0
          rw [e2] at r2
          have r2 := RAV.flat (v := .one (.int k2 n)) rfl r2
          rw [ho]
          simp only [aop, hty, r1, r2]
          rw [if_pos ⟨b1, Int.le_refl _, b3, b4, hal.2, lenK_ok hal.1⟩]
          simp
      · cases hx
    · cases hx
  · -- field
    rename_i t x fi ho
    split at hx
    · rename_i fs l hty hpx
      split at hx
      · rename_i off ft hf
        cases hn : (X.T ft).ty.isNone with
        | true => rw [hn] at hx; cases hx
        | false =>
          rw [hn, cond_false] at hx
          obtain ⟨h1, hx⟩ := dropK_ok hx
          obtain ⟨h2, hx⟩ := takeK_ok hx
          obtain ⟨v, hv, hx⟩ := mkK_ok hx
          refine Run.opPure (by rw [ho]; rfl) (by rw [ho]; rfl) (by rw [ho]; rfl) (by rw [ho]; rfl) (fun σ ev' he' => ?_) (hk _ _ hx)
          have rx := he' x
          rw [hpx] at rx
          obtain ⟨l', hl', rl⟩ := rx
          obtain ⟨v', hv', rv⟩ := mkAV_rel2 hv ((rl.drop off).take (X.T ft).size)
          refine ⟨v', rv, fun h id => ?_⟩
          rw [nth_eq] at hf
          rw [ho]
          simp only [aop, hty, hl', hf, Option.bind_some]
          rw [if_pos ⟨by have := rl.length; rw [List.length_drop] at h2; omega, hn⟩, hv']; rfl
      · cases hx
    · cases hx
  · -- indexAddr
    rename_i t x iv ho
    split at hx
    · rename_i e hty
      split at hx
      · rename_i j off n full sz ik z hpx hpi
        cases hs : (Nat.beq sz (X.T e).size && Nat.blt 0 (X.T e).size) with
        | false => rw [hs] at hx; cases hx
        | true =>
          rw [hs, cond_true] at hx
          injection hx with hx
          subst hx
          obtain ⟨hA, hr⟩ := he
          rw [Bool.and_eq_true] at hs
          exact Run.opIdx ho hty hpx hpi (Nat.eq_of_beq_eq_true hs.1) (Nat.le_of_ble_eq_true hs.2) hA hr
      · cases hx
    · cases hx
  · -- slice
    rename_i t x lo hi mx ho
    split at hx
    · rename_i e hty
      split at hx
      · rename_i a n full sz hpx
        split at hx
        · rename_i l h m hl hh hm
          cases hs0 : (Nat.blt 0 (X.T e).size && (!mx.isSome || hi.isSome)) with
          | false => rw [hs0] at hx; cases hx
          | true =>
            rw [hs0, cond_true] at hx
            rw [Bool.and_eq_true, Bool.or_eq_true, Bool.not_eq_true'] at hs0
            have hmx : mx.isSome = true → hi.isSome = true := fun h1 => hs0.2.resolve_left (by rw [h1]; simp)
            have hs0 : 0 < (X.T e).size := Nat.le_of_ble_eq_true hs0.1
            have hs0' : (X.T e).size ≠ 0 := by omega
            have fin : ∀ v A, (A → (0 ≤ l ∧ l ≤ h ∧ h ≤ m ∧ m ≤ n)) → (A ∧ Run.Put X nt k v ⟨C, o, rest, i, S⟩ ⟨p, dc, bl, nb, sp, ss⟩ K) →
                (∀ σ ev', (∀ x, RAV σ (P.ev p x) (ev' x)) → A → ∃ s', RAV σ v (.one s') ∧ ∀ hh, aslice X hh t (ev' x) (lo.map ev') (hi.map ev') (mx.map ev') = some s') → Run X nt k (.op C o rest i) S ⟨p, dc, bl, nb, sp, ss⟩ K := by
              intro v A _ ⟨hA, hr⟩ hsem
              refine Run.opPure (by rw [ho]; rfl) (by rw [ho]; rfl) (by rw [ho]; rfl) (by rw [ho]; rfl) (fun σ ev' he' => ?_) hr
              obtain ⟨s', h1, h2⟩ := hsem σ ev' he' hA
              refine ⟨_, h1, fun hh id => ?_⟩
              rw [ho]
              simp only [aop, h2, Option.map_some]
            split at hx
            · injection hx with hx
              subst hx
              refine fin _ _ id he fun σ ev' he' hA => ?_
              have rx := he' x
              rw [hpx] at rx
              obtain ⟨s', ex, r⟩ := rx
              have r : s' = _ := r
              subst r
              refine ⟨.sl none 0 true 0, ⟨_, rfl, rfl⟩, fun hp => ?_⟩
              simp only [aslice, hty, ex]
              rw [if_neg hs0', bounds_ok he' hl hh hm hmx hA]
              rfl
            · rename_i j off
              cases hsz : Nat.beq sz (X.T e).size with
              | false => rw [hsz] at hx; cases hx
              | true =>
                rw [hsz, cond_true] at hx
                have hsz := Nat.eq_of_beq_eq_true hsz
                injection hx with hx
                subst hx
                refine fin _ _ id he fun σ ev' he' hA => ?_
                have rx := he' x
                rw [hpx] at rx
                obtain ⟨s', ex, r⟩ := rx
                rcases r with ⟨b, hb, rfl⟩ | ⟨hb, hn, rfl⟩
                · refine ⟨_, ⟨_, rfl, .inl ⟨b, hb, rfl⟩⟩, fun hp => ?_⟩
                  simp only [aslice, hty, ex]
                  rw [if_neg hs0', bounds_ok he' hl hh hm hmx hA]
                  simp only [Option.bind_some]
                  rw [if_pos hsz]
                  congr 2
                  cases mx with
                  | none =>
                    cases hi with
                    | none =>
                      rcases bdI_ok hh with ⟨_, rfl⟩ | ⟨_, _, e1, _⟩
                      · simp
                      · cases e1
                    | some x => rfl
                  | some x =>
                    simp only [Option.map_some]
                    congr 1
                    exact propext ⟨fun h1 => by omega, fun h1 => by omega⟩
                · have h0 : h.toNat - l.toNat = 0 := by omega
                  refine ⟨.sl none 0 true 0, ⟨_, rfl, .inr ⟨hb, h0, rfl⟩⟩, fun hp => ?_⟩
                  subst hn
                  simp only [aslice, hty, ex]
                  rw [if_neg hs0', bounds_ok he' hl hh hm hmx hA]
                  rfl
        · cases hx
      · cases hx
    · rename_i hty
      split at hx
      · rename_i s hpx
        split at hx
        · rename_i l h hl hh
          injection hx with hx
          subst hx
          obtain ⟨hA, hr⟩ := he
          refine Run.opPure (by rw [ho]; rfl) (by rw [ho]; rfl) (by rw [ho]; rfl) (by rw [ho]; rfl) (fun σ ev' he' => ⟨_, RAV.of_flat rfl, fun h id => ?_⟩) hr
          have rx := he' x
          rw [hpx] at rx
          have rx := RAV.flat (v := .one (.str s)) rfl rx
          rw [ho]
          simp only [aop, aslice, hty, rx, Option.map_none]
          have hb := bounds_ok (mx := none) he' hl hh (m := s.size) rfl (fun h => by cases h) ⟨hA.1, hA.2.1, hA.2.2, Int.le_refl _⟩
          rw [Option.map_none] at hb
          rw [hb]
          simp
        · cases hx
      · cases hx
    · cases hx
  · -- append
    rename_i args ts ho
    split at hx
    · rename_i s0 x0 t u hargs hts
      cases htu : Nat.beq t u with
      | false => rw [htu] at hx; cases hx
      | true =>
        rw [htu, cond_true] at hx
        have := Nat.eq_of_beq_eq_true htu
        subst this
        split at hx
        · rename_i e hty
          split at hx
          · rename_i a sn full sz a' xn full' sz' h1 h2
            injection hx with hx
            subst hx
            exact Run.opApp ho hargs hts hty h1 h2 he
          · cases hx
        · cases hx
    · cases hx
  · -- call
    rename_i f0 args ts ho
    split at hx
    · rename_i g caps hpf
      have hx := appK_ok (evsK_ok (capK_ok hx))
      split at hx
      · rename_i fE hE
        cases hc : (allB AV.flat (args.toList.map (P.ev p) ++ caps.map fun a => .one (.ptr (some a))) && (!C.dr || (noMask (C.bs.getD i 0) 0 C.ops && !isW X o.op))) with
        | false => rw [hc] at hx; cases hx
        | true =>
          rw [hc, cond_true] at hx
          rw [Bool.and_eq_true] at hc
          split at hx
          · rename_i v hv
            cases hvf : v.flat with
            | false => rw [hvf] at hx; cases hx
            | true =>
              rw [hvf, cond_true] at hx
              refine Run.opE ho hpf rfl hE hc.1 (fun hd => ?_) hv hvf (hk _ _ hx)
              have := hc.2
              rw [hd] at this
              simpa using this
          · cases hx
      · injection hx with hx
        subst hx
        rcases he with he | he
        · exact Run.opCall ho hpf rfl he
        · exact he
    · cases hx
  · -- pure
    split at hx
    · rename_i v hv
      have hP : isP (P.ev p) o.op = true := by
        unfold pop at hv
        cases hp : isP (P.ev p) o.op with
        | true => rfl
        | false => rw [hp] at hv; cases hv
      obtain ⟨k1, k2, k3, k4⟩ := isP_kinds (X := X) hP
      refine Run.opPure k1 k2 k3 k4 (fun σ ev' he' => ?_) (hk _ _ hx)
      obtain ⟨_, v', h1, h2⟩ := pop_rel hz he' hv hE 0
      exact ⟨v', h2, fun h id => pure_indep hP h1 h id⟩
    · injection hx with hx
      subst hx
      exact he

end
end Go.AM
end

section
/- What a walk over lists says of the machine: bodies, and functions. No program here. -/
set_option linter.unusedSimpArgs false
set_option linter.unusedVariables false
namespace Go.AM
open Go

/-- Room for a region's blocks. -/
theorem SI.region {G : Gh} {σ : Sg} {p : P} {bl : BL} {nb : Nat} {f : FF} {h : H} (s : SI G σ p bl nb f h) (n : Nat) (dr : Bool) :
    SI G σ p (bl.map unborn) nb f { h with nx := h.nx + n } ∧ RG dr h.nx n 0 σ (bl.map unborn) G.h { h with nx := h.nx + n } := by
  obtain ⟨hok, hff⟩ := s.ok.unborn.frame (Sg.le.refl σ) (h' := { h with nx := h.nx + n }) (fun _ _ _ _ => rfl) (Nat.le_add_right _ _) rfl
  have hlow : ∀ e ∈ bl.map unborn, ∀ x, Foot σ { h with nx := h.nx + n } e x → x < h.nx := fun e he x hx => s.ok.unborn.low e he x ((hff e he x).1 hx)
  refine ⟨⟨s.ag, hok, s.top, Nat.le_trans s.nx (Nat.le_add_right _ _), s.ro, s.lo, s.keep, fun e he hw x hx => ?_, s.kn, s.pin⟩, ⟨s.nx, Nat.le_refl _, fun e he x hx k _ _ => ?_, fun _ e he => ?_⟩⟩
  · have hx := (hff e he x).1 hx
    obtain ⟨e0, h1, rfl⟩ := List.mem_map.1 he
    exact s.own e0 h1 hw x hx
  · have := hlow e he x hx; omega
  · obtain ⟨e0, h1, rfl⟩ := List.mem_map.1 he
    intro x hx
    exact .inl (hlow _ he x hx)

theorem bEq_eq (a b : Bool) : bEq a b = (a == b) := by cases a <;> cases b <;> rfl
theorem wanted_of {ops : List Oper} {f : FF} {o oj : Oper} {j d : Nat} {want b : Bool} (hg : o.guard = some (j, want)) (hn : nth ops j = some oj) (hd : oj.dst = some d) (hf : f d = .one (.bool b)) : wantedF ops f o = some (b == want) := by
  rw [nth_eq] at hn
  unfold wantedF
  rw [hg]
  dsimp only
  rw [hn, Option.bind_some, hd]
  dsimp only
  rw [hf]
theorem wanted_undef {ops : List Oper} {f : FF} {o oj : Oper} {j d : Nat} {want : Bool} (hg : o.guard = some (j, want)) (hn : nth ops j = some oj) (hd : oj.dst = some d) (hf : f d = .tup []) : wantedF ops f o = some false := by
  rw [nth_eq] at hn
  unfold wantedF
  rw [hg]
  dsimp only
  rw [hn, Option.bind_some, hd]
  dsimp only
  rw [hf]

theorem dcDelK_ok {ρ : Type} {r : ρ} {n : Nat} : ∀ {dc : DC} {k : DC → Option ρ}, dcDelK n dc k = some r → ∃ dc', k dc' = some r ∧ ∀ d b, dcGet dc' d = some b → d ≠ n ∧ dcGet dc d = some b
  | [], k, h => ⟨[], h, fun d b h => by cases h⟩
  | (d0, b0) :: l, k, h => by
    unfold dcDelK at h
    cases hb : Nat.beq d0 n with
    | true =>
      rw [hb, cond_true] at h
      have := Nat.eq_of_beq_eq_true hb
      subst this
      obtain ⟨dc', h1, h2⟩ := dcDelK_ok h
      refine ⟨dc', h1, fun d b hd => ?_⟩
      obtain ⟨h3, h4⟩ := h2 d b hd
      refine ⟨h3, ?_⟩
      unfold dcGet
      have : Nat.beq d0 d = false := by
        cases hb2 : Nat.beq d0 d with
        | false => rfl
        | true => exact absurd (Nat.eq_of_beq_eq_true hb2).symm h3
      rw [this]; exact h4
    | false =>
      rw [hb, cond_false] at h
      obtain ⟨dc', h1, h2⟩ := dcDelK_ok h
      refine ⟨(d0, b0) :: dc', h1, fun d b hd => ?_⟩
      unfold dcGet at hd ⊢
      cases hb2 : Nat.beq d0 d with
      | true =>
        rw [hb2] at hd
        have := Nat.eq_of_beq_eq_true hb2
        subst this
        refine ⟨fun e => ?_, hd⟩
        subst e
        simp at hb
      | false =>
        rw [hb2] at hd
        exact h2 d b hd
theorem DcR.set {dc dc' : DC} {f : FF} (h : DcR dc f) {n : Nat} (h2 : ∀ d b, dcGet dc' d = some b → d ≠ n ∧ dcGet dc d = some b) (v : AV) : DcR dc' (f.set n v) := fun d b hd => by
  obtain ⟨h3, h4⟩ := h2 d b hd
  unfold FF.set
  have : Nat.beq d n = false := by
    cases hb2 : Nat.beq d n with
    | false => rfl
    | true => exact absurd (Nat.eq_of_beq_eq_true hb2) h3
  rw [this]
  exact h d b h4

section
variable {X : Env} {nt k : Nat} {K : KC}

theorem exec_ok (hz : ZeroFlat X) : ∀ (n : Nat) (F : Fo) (S : List Kt) (st : St) (ev : Ev), exec X nt n F S st = some ev → EvH X nt k K ev → Run X nt k F S st K := by
  intro n
  induction n with
  | zero => intro F S st ev h; cases h
  | succ n ih =>
    intro F S st ev hx he
    obtain ⟨p, dc, bl, nb, sp, ss⟩ := st
    cases F with
    | code c =>
      cases c with
      | skip =>
        have := ih (.leave .norm) S _ ev hx he
        exact fun G hG Q hK σ f h s => RunsF.skip (this G hG Q hK σ f h s)
      | label l =>
        have := ih (.leave .norm) S _ ev hx he
        exact fun G hG Q hK σ f h s => RunsF.label (this G hG Q hK σ f h s)
      | exit id =>
        have := ih (.leave (.exit id)) S _ ev hx he
        exact fun G hG Q hK σ f h s => RunsF.exit (this G hG Q hK σ f h s)
      | ret =>
        have := ih (.leave .ret) S _ ev hx he
        exact fun G hG Q hK σ f h s => RunsF.ret (this G hG Q hK σ f h s)
      | scope b =>
        have := ih (.code b) S _ ev hx he
        exact fun G hG Q hK σ f h s => RunsF.scope (this G hG Q hK σ f h s)
      | seq a b =>
        have := ih (.code a) (.seq b :: S) _ ev hx he
        exact fun G hG Q hK σ f h s => RunsF.seq (this G hG Q hK σ f h s)
      | block id b =>
        have := ih (.code b) (.block id :: S) _ ev hx he
        exact fun G hG Q hK σ f h s => RunsF.block (this G hG Q hK σ f h s)
      | region id ops draw =>
        have hx := oldK_ok (show (oldK bl fun bl => match draw with
          | false => exec X nt n (.reg ⟨ops.toList, false, []⟩ ops.toList 0) S ⟨p, [], bl, nb, [], []⟩
          | true => some (.draw ops.toList S ⟨p, [], bl, nb, [], []⟩)) = some ev from hx)
        cases draw with
        | false =>
          have hr := ih _ S _ ev hx he
          intro G hG Q hK σ f h s
          obtain ⟨s2, g2⟩ := SI.region s ops.toList.length false
          exact RunsF.region (hr G hG Q hK h.nx σ f _ s2 g2 (fun d b h => by cases h) (Nat.zero_add _))
        | true =>
          injection hx with hx
          subst hx
          obtain ⟨bs, hbs, hok, hr⟩ := he
          intro G hG Q hK σ f h s
          obtain ⟨s2, g2⟩ := SI.region s ops.toList.length true
          have := hr G hG Q hK h.nx σ f _ s2 g2 (fun d b h => by cases h) (Nat.zero_add _)
          refine RunsF.dregion hok ?_
          rw [hbs]
          exact this [] [] trivial trivial
      | cond c a b =>
        have hx : (match P.ev p c with
          | .one (.bool t) => some (Ev.split t S (.code a) ⟨p, [], bl, nb, [], []⟩ (.code b) ⟨p, [], bl, nb, [], []⟩)
          | _ => none) = some ev := hx
        split at hx
        · rename_i t ht
          injection hx with hx
          subst hx
          obtain ⟨h1, h2⟩ := he
          intro G hG Q hK σ f h s
          have hc := s.ag.ev c
          rw [ht] at hc
          have hc := RAV.flat (v := .one (.bool t)) rfl hc
          refine RunsF.cond hc ?_
          cases t with
          | true => exact h1 rfl G hG Q hK σ f h s
          | false => exact h2 rfl G hG Q hK σ f h s
        · cases hx
      | loop b =>
        have hx : some (Ev.loop b S ⟨p, dc, bl, nb, sp, ss⟩) = some ev := hx
        injection hx with hx
        subst hx
        obtain ⟨T, m, I, ip, ib, inb, ⟨t0, tl0, hI0, hre⟩, hround⟩ := he
        intro G hG Q hK σ f h s
        refine RunsF.loop (fun k' f h => ∃ t σ, m t = k' ∧ I t ∧ SI G σ (ip t) (ib t) (inb t) f h) (fun k' f h hI => ?_) (m t0) ⟨t0, _, rfl, hI0, hre.ok hG s⟩
        obtain ⟨t, σ, rfl, hI, s⟩ := hI
        refine hround t hI G hG _ (fun e p' bl' nb' hK' σ f h s => ?_) σ f h s
        cases e with
        | norm =>
          obtain ⟨t', tl, hlt, hI', hre'⟩ := hK'
          exact ⟨m t', hlt, t', _, rfl, hI', hre'.ok hG s⟩
        | exit id => exact hK' G hG Q hK σ f h s
        | ret => exact hK' G hG Q hK σ f h s
      | _ => cases hx
    | leave e =>
      cases S with
      | nil =>
        have hx : some (Ev.fin e p bl nb) = some ev := hx
        injection hx with hx
        subst hx
        exact fun G hG Q hK σ f h s => hK e p bl nb he σ f h s
      | cons kt S =>
        cases kt with
        | seq b =>
          cases e with
          | norm => exact fun G hG Q hK σ f h s => ih (.code b) S _ ev hx he G hG Q hK σ f h s
          | exit j => exact fun G hG Q hK σ f h s => ih (.leave (.exit j)) S _ ev hx he G hG Q hK σ f h s
          | ret => exact fun G hG Q hK σ f h s => ih (.leave .ret) S _ ev hx he G hG Q hK σ f h s
        | block id =>
          cases e with
          | norm => exact fun G hG Q hK σ f h s => ih (.leave .norm) S _ ev hx he G hG Q hK σ f h s
          | ret => exact fun G hG Q hK σ f h s => ih (.leave .ret) S _ ev hx he G hG Q hK σ f h s
          | exit j =>
            have hx : (bif Nat.beq j id then exec X nt n (.leave .norm) S ⟨p, dc, bl, nb, sp, ss⟩ else exec X nt n (.leave (.exit j)) S ⟨p, dc, bl, nb, sp, ss⟩) = some ev := hx
            intro G hG Q hK σ f h s
            show (if j = id then stackQ X nt S Q .norm f h else stackQ X nt S Q (.exit j) f h)
            cases hb : Nat.beq j id with
            | true =>
              rw [hb, cond_true] at hx
              rw [if_pos (Nat.eq_of_beq_eq_true hb)]
              exact ih (.leave .norm) S _ ev hx he G hG Q hK σ f h s
            | false =>
              rw [hb, cond_false] at hx
              rw [if_neg (fun e => by subst e; simp at hb)]
              exact ih (.leave (.exit j)) S _ ev hx he G hG Q hK σ f h s
    | reg C rest i =>
      cases rest with
      | nil =>
        have hr := ih (.leave .norm) S _ ev hx he
        exact fun G hG Q hK c σ f h s g dcr hlen => SeqD.nil (hr G hG Q hK σ f h s)
      | cons o rest =>
        unfold exec at hx
        dsimp only at hx
        split at hx
        · rename_i hg
          have hr := ih _ S _ ev hx he
          exact fun G hG Q hK c σ f h s g dcr hlen => hr G hG Q hK c σ f h s g dcr hlen (by unfold wantedF; rw [hg])
        · rename_i j want hg
          split at hx
          · rename_i oj hn
            split at hx
            · rename_i d hd
              have skip : ∀ p2 dc2, exec X nt n (.put C o.dst undefA rest i) S ⟨p2, dc2, bl, nb, sp, ss⟩ = some ev → Run X nt k (.put C o.dst undefA rest i) S ⟨p2, dc2, bl, nb, sp, ss⟩ K := fun p2 dc2 hx => ih _ S _ ev hx he
              have skip2 : ∀ {p2 dc2}, Run X nt k (.put C o.dst undefA rest i) S ⟨p2, dc2, bl, nb, sp, ss⟩ K → ∀ G : Gh, G.k = k → ∀ Q, (∀ e p bl nb, K e p bl nb → ∀ σ f h, SI G σ p bl nb f h → Q e f h) → ∀ c σ f h, SI G σ p2 bl nb f h → RG C.dr c C.ops.length i σ bl G.h h → DcR dc2 f → i + (rest.length + 1) = C.ops.length → wantedF C.ops f o = some false → SeqD X nt C c i (o :: rest) f h σ bl sp ss (stackQ X nt S Q .norm) := by
                intro p2 dc2 hr G hG Q hK c σ f h s g dcr hlen hw
                obtain ⟨f1, hp, hs⟩ := hr G hG Q hK c σ f h undefA s (RAV.of_flat rfl) g.next dcr hlen
                exact SeqD.skip hw hp hs
              split at hx
              · rename_i b hb
                split at hx
                · rename_i hbe
                  have hr := ih _ S _ ev hx he
                  rw [bEq_eq] at hbe
                  exact fun G hG Q hK c σ f h s g dcr hlen => hr G hG Q hK c σ f h s g dcr hlen (by rw [wanted_of hg hn hd (dcr d b hb), hbe])
                · rename_i hbe
                  rw [bEq_eq] at hbe
                  exact fun G hG Q hK c σ f h s g dcr hlen => skip2 (skip _ _ hx) G hG Q hK c σ f h s g dcr hlen (by rw [wanted_of hg hn hd (dcr d b hb), hbe])
              · rename_i hdc
                split at hx
                · rename_i b hb
                  have over : ∀ {G : Gh} {σ : Sg} {f : FF} {h : H}, SI G σ p bl nb f h → DcR dc f → f d = .one (.bool b) ∧ SI G σ ((d, .one (.bool b)) :: p) bl nb f h ∧ DcR ((d, b) :: dc) f := fun {G σ f h} s dcr => by
                    have hv := s.ag d
                    rw [hb] at hv
                    have hv := RAV.flat (v := .one (.bool b)) rfl hv
                    refine ⟨hv, ⟨s.ag.over d (by rw [hv]; exact RAV.of_flat rfl), s.ok, s.top, s.nx, s.ro, s.lo, s.keep, s.own, s.kn, s.pin⟩, fun d' b' hd' => ?_⟩
                    unfold dcGet at hd'
                    cases hdd : Nat.beq d d' with
                    | true =>
                      rw [hdd, cond_true] at hd'
                      injection hd' with hd'
                      have := Nat.eq_of_beq_eq_true hdd
                      subst this; subst hd'; exact hv
                    | false => rw [hdd] at hd'; exact dcr d' b' hd'
                  intro G hG Q hK c σ f h s g dcr hlen
                  obtain ⟨hv, s2, dcr2⟩ := over s dcr
                  cases want with
                  | true =>
                    injection hx with hx
                    subst hx
                    obtain ⟨h1, h2⟩ := he
                    cases b with
                    | true => exact h1 rfl G hG Q hK c σ f h s2 g dcr2 hlen (by rw [wanted_of hg hn hd hv]; rfl)
                    | false => exact skip2 (h2 rfl) G hG Q hK c σ f h s2 g dcr2 hlen (by rw [wanted_of hg hn hd hv]; rfl)
                  | false =>
                    injection hx with hx
                    subst hx
                    obtain ⟨h1, h2⟩ := he
                    cases b with
                    | true => exact skip2 (h1 rfl) G hG Q hK c σ f h s2 g dcr2 hlen (by rw [wanted_of hg hn hd hv]; rfl)
                    | false => exact h2 rfl G hG Q hK c σ f h s2 g dcr2 hlen (by rw [wanted_of hg hn hd hv]; rfl)
                · rename_i hb
                  intro G hG Q hK c σ f h s g dcr hlen
                  have s' : SI G σ p bl nb f h := s
                  have hv := s'.ag d
                  rw [hb] at hv
                  have hv := RAV.flat (v := .tup []) rfl hv
                  exact skip2 (skip _ _ hx) G hG Q hK c σ f h s g dcr hlen (wanted_undef hg hn hd hv)
                · cases hx
            · cases hx
          · cases hx
    | op C o rest i => exact oexec_ok hz hx (fun v st' hx => ih _ S _ ev hx he) he
    | put C dst v rest i =>
      unfold exec at hx
      unfold putK at hx
      dsimp only at hx
      intro G hG Q hK c σ f h v' s rv g dcr hlen
      have s : SI G σ p bl nb f h := s
      split at hx
      · have hr := ih _ S _ ev hx he
        exact ⟨f, rfl, hr G hG Q hK c σ f h s g dcr (by omega)⟩
      · rename_i d
        cases hlt : Nat.blt d nt with
        | false => rw [hlt] at hx; cases hx
        | true =>
          rw [hlt, cond_true, forceK_eq] at hx
          obtain ⟨dc', hx, hdc⟩ := dcDelK_ok hx
          have hr := ih _ S _ ev hx he
          refine ⟨f.set d v', ?_, hr G hG Q hK c σ _ h ⟨s.ag.set d rv, s.ok, s.top, s.nx, s.ro, s.lo, s.keep, s.own, s.kn, s.pin⟩ g (DcR.set dcr hdc v') (by omega)⟩
          unfold putF
          dsimp only
          rw [if_pos (show d < nt from Nat.le_of_ble_eq_true hlt)]

/-- On to the first thing that has to be shown. -/
theorem Run.step (hz : ZeroFlat X) {F : Fo} {S : List Kt} {st : St} (n : Nat) {ev : Ev} (hx : exec X nt n F S st = some ev) (he : EvH X nt k K ev) : Run X nt k F S st K := exec_ok hz n F S st ev hx he
end

/-! ### Functions -/
noncomputable section
variable {ρ : Type}
def resK (X : Env) (p : P) (bl : BL) (r : ResultVar) (k : Bool × List Sc → Option ρ) : Option ρ := match r with
  | .tmp t => (match P.get p t with | .one s => k (false, [s]) | .agg l => k (true, l) | _ => none)
  | .cell a t => match P.get p a with
    | .one (.ptr (some (j, off))) => bif (X.T t).ty.isNone then none else blk bl j fun _ _ c => match c with
      | .ex l => dropK l off fun l1 => takeK l1 (X.T t).size fun xs => (match (X.T t).isAgg with | true => k (true, xs) | false => (match xs with | [s] => k (false, [s]) | _ => none))
      | _ => none
    | _ => none
def ressK (X : Env) (p : P) (bl : BL) : List ResultVar → (List (Bool × List Sc) → Option ρ) → Option ρ
  | [], k => k []
  | r :: rs, k => resK X p bl r fun x => ressK X p bl rs fun l => k (x :: l)
def resV (X : Env) (rs : List ResultVar) (p : P) (bl : BL) : Option AV := ressK X p bl rs fun l => match l with
  | [x] => elAV x
  | l => some (.tup l)
end

theorem resK_ok {X : Env} {ρ : Type} {r0 : ρ} {G : Gh} {σ : Sg} {p : P} {bl : BL} {nb : Nat} {f : FF} {h : H} (s : SI G σ p bl nb f h) {r : ResultVar} {k : Bool × List Sc → Option ρ} (hr : resK X p bl r k = some r0) : ∃ x y, k x = some r0 ∧ resultF X f h r = some y ∧ REl σ x y := by
  cases r with
  | tmp t =>
    unfold resK at hr
    dsimp only at hr
    have hv := s.ag t
    split at hr
    · rename_i sc e
      rw [e] at hv
      obtain ⟨s', e', rs⟩ := hv
      exact ⟨_, (false, [s']), hr, by simp only [resultF, e', avEl], rfl, rs, trivial⟩
    · rename_i l e
      rw [e] at hv
      obtain ⟨l', e', rs⟩ := hv
      exact ⟨_, (true, l'), hr, by simp only [resultF, e', avEl], rfl, rs⟩
    · cases hr
  | cell a t =>
    unfold resK at hr
    dsimp only at hr
    have hv := s.ag a
    split at hr
    · rename_i j off e
      rw [e] at hv
      obtain ⟨s', e', a', rfl, b, hb, rfl⟩ := hv
      cases hty : (X.T t).ty.isNone with
      | true => rw [hty] at hr; cases hr
      | false =>
        rw [hty, cond_false] at hr
        obtain ⟨w, born, c, hmem, hr⟩ := blk_ok hr
        split at hr
        · rename_i l
          obtain ⟨h1, hr⟩ := dropK_ok hr
          obtain ⟨h2, hr⟩ := takeK_ok hr
          have hent := s.ok.ent _ hmem
          unfold Ent at hent
          rw [show (⟨j, w, born, .ex l⟩ : Bk).j = j from rfl, hb] at hent
          obtain ⟨l', h3, h4⟩ := hent
          have h5 := H.load_of (off := off) (n := (X.T t).size) h3 (by have := h4.length; rw [List.length_drop] at h2; omega)
          have rl := (h4.drop off).take (X.T t).size
          simp only [resultF, e', hty, Bool.false_eq_true, if_false, h5, Option.bind_some]
          split at hr
          · rename_i hag
            exact ⟨_, (true, (l'.drop off).take (X.T t).size), hr, by simp only [hag, mkAV, if_true, Option.bind_some, avEl], rfl, rl⟩
          · rename_i hag
            split at hr
            · rename_i sc e1
              rw [e1] at rl
              generalize (l'.drop off).take (X.T t).size = l2 at rl ⊢
              match l2, rl with
              | [s2], rl => exact ⟨_, (false, [s2]), hr, by simp only [hag, mkAV, Bool.false_eq_true, if_false, Option.bind_some, avEl], rfl, rl⟩
              | [], rl => exact rl.elim
              | _ :: _ :: _, rl => exact rl.2.elim
            · cases hr
        · cases hr
    · cases hr
theorem ressK_ok {X : Env} {ρ : Type} {r0 : ρ} {G : Gh} {σ : Sg} {p : P} {bl : BL} {nb : Nat} {f : FF} {h : H} (s : SI G σ p bl nb f h) : ∀ {rs : List ResultVar} {k : List (Bool × List Sc) → Option ρ}, ressK X p bl rs k = some r0 →
    ∃ l l', k l = some r0 ∧ allSome (rs.map (resultF X f h)) = some l' ∧ LR (REl σ) l l'
  | [], k, hr => ⟨[], [], hr, rfl, trivial⟩
  | r :: rs, k, hr => by
    unfold ressK at hr
    obtain ⟨x, y, h1, h2, h3⟩ := resK_ok s hr
    obtain ⟨l, l', h4, h5, h6⟩ := ressK_ok s h1
    exact ⟨x :: l, y :: l', h4, by simp only [List.map_cons, allSome, h2, Option.bind_some, h5, Option.map_some], h3, h6⟩
theorem resV_ok {X : Env} {G : Gh} {σ : Sg} {p : P} {bl : BL} {nb : Nat} {f : FF} {h : H} (s : SI G σ p bl nb f h) {fn : Func} {v : AV} (hr : resV X fn.results.toList p bl = some v) : ∃ v', resultsF X fn f h = some v' ∧ RAV σ v v' := by
  unfold resV at hr
  obtain ⟨l, l', h1, h2, h3⟩ := ressK_ok s hr
  unfold resultsF
  rw [h2, Option.bind_some]
  match l, l', h3, h1 with
  | [x], [y], h3, h1 =>
    obtain ⟨v', e, rv⟩ := elAV_rel2 h1 h3.1
    exact ⟨v', e, rv⟩
  | [], [], _, h1 => injection h1 with h1; subst h1; exact ⟨_, rfl, [], rfl, trivial⟩
  | x :: y :: l, x' :: y' :: l', h3, h1 => injection h1 with h1; subst h1; exact ⟨_, rfl, _, rfl, h3⟩
  | [], _ :: _, h3, _ => exact h3.elim
  | [_], [], h3, _ => exact h3.elim
  | [_], _ :: _ :: _, h3, _ => exact h3.2.elim
  | _ :: _ :: _, [], h3, _ => exact h3.elim
  | _ :: _ :: _, [_], h3, _ => exact h3.2.elim

def exOK : Ex → Bool
  | .exit _ => false
  | _ => true
/-- At a function's end. -/
def FinK (X : Env) (rs : List ResultVar) (nb0 : Nat) (A : Type) (V : A → AV) (B : A → BL) (nb' : A → Nat) : KC := fun e p bl nb =>
  exOK e = true ∧ ∃ v, resV X rs p bl = some v ∧ ∃ a tl, lenK tl (nb' a) = true ∧ idTl nb0 tl = true ∧ RvAV tl (V a) v ∧ RvBL tl bl (B a) ∧ nodupB (fromJ tl (B a)) = true ∧ nodupB ((B a).map Bk.j) = true ∧ ∀ e ∈ B a, e.born = none ∧ e.w = true

theorem Ct.of_run {X : Env} (hz : ZeroFlat X) {g : FuncId} {fn : Func} {c : Code} {args : List AV} {bl : BL} {nb : Nat} {A : Type} {V : A → AV} {B : A → BL} {nb' : A → Nat} (hE : X.E g = none) (hF : X.F g = some fn) (hb : fn.body = some c) (hlen : Nat.ble args.length fn.ntmps = true)
    (hr : Run X fn.ntmps nb (.code c) [] ⟨P.args 0 args, [], bl, nb, [], []⟩ (FinK X fn.results.toList nb A V B nb')) : Ct X g args bl nb A V B nb' := by
  intro σ args' h hargs hbl hro htop
  refine CallsQ.of_bodyF hE hF hb (by rw [← hargs.length]; exact Nat.le_of_ble_eq_true hlen) ?_
  refine hr ⟨h, WrB σ bl h, σ, nb⟩ rfl _ (fun e p bl' nb2 hK σ2 f h2 s2 => ?_) σ (FF.of args') h ⟨Ag.args hargs, hbl, htop, Nat.le_refl _, rfl, hro, fun _ _ _ => rfl, fun e he hw i hi => .inr ⟨e, he, hw, hi⟩, Nat.le_refl _, fun _ _ => rfl⟩
  obtain ⟨hex, v, hv, a, tl, h1, h2', h3, h4, h5, h6, h7⟩ := hK
  obtain ⟨v', hv', rv⟩ := resV_ok s2 hv
  obtain ⟨hok, hold⟩ := h4.ok h5 h6 s2.ok
  refine ⟨(by cases e with | norm => exact .inl rfl | ret => exact .inr rfl | exit j => cases hex), v', hv', a, reσ tl σ2, fun j hj => (idTl_ok h2' σ2 j hj).trans (s2.pin j hj), fun j hj => ?_, s2.nx, s2.ro, RvAV_ok h3 rv, hok, s2.keep, fun e he i hi => ?_, fun e he => (h7 e he).1⟩
  · unfold reσ
    rw [nth_eq, List.getElem?_eq_none (by rw [lenK_ok h1]; exact hj)]
  · obtain ⟨e', h8, _, h9, h10⟩ := hold e he i hi
    exact s2.own e' h8 (h9 (h7 e he).2) i h10

end Go.AM
end

section
/- Walks: the steps as they are used. No program here. -/
set_option linter.unusedSimpArgs false
set_option linter.unusedVariables false
namespace Go.AM
open Go

/-- A call that changes nothing, and its value. -/
abbrev Ct0 (X : Env) (g : FuncId) (args : List AV) (bl : BL) (nb : Nat) (v : AV) : Prop := Ct X g args bl nb Unit (fun _ => v) (fun _ => []) (fun _ => nb)
abbrev Fin0 (X : Env) (rs : List ResultVar) (nb : Nat) (v : AV) : KC := FinK X rs nb Unit (fun _ => v) (fun _ => []) (fun _ => nb)

theorem RvSc_flat {tl : List (Option Nat)} {s : Sc} (hf : flatSc s = true) : RvSc tl s s := by
  cases s with
  | ptr a => cases a with
    | none => exact rfl
    | some a => cases hf
  | sl a n f z => cases a with
    | none => exact rfl
    | some a => cases hf
  | fn => cases hf
  | _ => exact rfl
theorem RvAV_flat {tl : List (Option Nat)} {v : AV} (hf : v.flat = true) : RvAV tl v v := by
  cases v with
  | one s => exact RvSc_flat hf
  | agg l => exact .inl ⟨rfl, hf⟩
  | tup l => exact .inl ⟨rfl, hf⟩
  | top => trivial

def idL : Nat → Nat → List (Option Nat)
  | _, 0 => []
  | i, n + 1 => some i :: idL (i + 1) n
theorem idL_len : ∀ (n i : Nat), (idL i n).length = n
  | 0, _ => rfl
  | n + 1, i => by simp [idL, idL_len n (i + 1)]
theorem lenK_iff {α : Type} : ∀ {l : List α} {n : Nat}, l.length = n → lenK l n = true
  | [], 0, _ => rfl
  | [], n + 1, h => by simp at h
  | _ :: _, 0, h => by simp at h
  | _ :: l, n + 1, h => lenK_iff (l := l) (by simpa using h)
theorem idL_get : ∀ (n i j : Nat), j < n → nth (idL i n) j = some (some (i + j))
  | 0, _, _, h => by omega
  | n + 1, i, 0, _ => rfl
  | n + 1, i, j + 1, h => by
    show nth (idL (i + 1) n) j = _
    rw [idL_get n (i + 1) j (by omega)]
    congr 2; omega
theorem idL_id (k : Nat) : idTl k (idL 0 k) = true := by
  unfold idTl
  have all : ∀ l : List Nat, (∀ j ∈ l, j < k) → allB (fun j => match nth (idL 0 k) j with | some (some j') => Nat.beq j' j | _ => false) l = true := by
    intro l
    induction l with
    | nil => intro _; rfl
    | cons a l ih =>
      intro h
      simp only [allB, Bool.and_eq_true]
      refine ⟨?_, ih fun j hj => h j (List.mem_cons_of_mem _ hj)⟩
      rw [idL_get k 0 a (h a List.mem_cons_self)]
      simp
  exact all _ fun j hj => List.mem_range.1 hj

/-- A run, told of once for all. -/
structure Rn (X : Env) (nt k : Nat) (F : Fo) (S : List Kt) (st : St) (K : KC) : Prop where
  run : Run X nt k F S st K

section
variable {X : Env} {nt k : Nat} {K : KC} {F : Fo} {S S' : List Kt} {st st1 st2 : St} {f1 f2 : Fo}

theorem Rn.split (hz : ZeroFlat X) (n : Nat) {b : Bool} (hx : exec X nt n F S st = some (.split b S' f1 st1 f2 st2)) (h1 : b = true → Rn X nt k f1 S' st1 K) (h2 : b = false → Rn X nt k f2 S' st2 K) : Rn X nt k F S st K := ⟨Run.step hz n hx ⟨fun h => (h1 h).run, fun h => (h2 h).run⟩⟩
theorem Rn.ask (hz : ZeroFlat X) (n : Nat) {A : Prop} {v : AV} {r : Rs} (hx : exec X nt n F S st = some (.ask A v r st1)) (h1 : A) (h2 : Rn X nt k (.put r.C r.o.dst v r.rest r.i) r.S st1 K) : Rn X nt k F S st K := ⟨Run.step hz n hx ⟨h1, h2.run⟩⟩
theorem Rn.fin0 (hz : ZeroFlat X) (n : Nat) {rs : List ResultVar} {v v0 : AV} {e : Ex} {p : P} {bl : BL} {nb : Nat} (hx : exec X nt n F S st = some (.fin e p bl nb)) (hex : exOK e = true) (hv : resV X rs p bl = some v) (hf : v.flat = true) (h : v = v0) : Rn X nt k F S st (Fin0 X rs k v0) := by
  subst h
  exact ⟨Run.step hz n hx ⟨hex, v, hv, (), idL 0 k, lenK_iff (idL_len k 0), idL_id k, RvAV_flat hf, trivial, rfl, rfl, fun _ h => by cases h⟩⟩
theorem Rn.draw (hz : ZeroFlat X) (n : Nat) {ops : List Oper} (bs : List Nat) (hx : exec X nt n F S st = some (.draw ops S' st1)) (h1 : befs ops = bs) (h2 : drawOK X ops = true) (h3 : Rn X nt k (.reg ⟨ops, true, bs⟩ ops 0) S' st1 K) : Rn X nt k F S st K := ⟨Run.step hz n hx ⟨bs, h1, h2, h3.run⟩⟩
theorem Rn.loadR (hz : ZeroFlat X) (n : Nat) {l : List Sc} {off m : Nat} {agg : Bool} {v : AV} {r : Rs} (hx : exec X nt n F S st = some (.loadR l off m agg r st1)) (h1 : LoadR l off m agg v) (h2 : Rn X nt k (.put r.C r.o.dst v r.rest r.i) r.S st1 K) : Rn X nt k F S st K := ⟨Run.step hz n hx ⟨v, h1, h2.run⟩⟩
theorem Rn.storeR (hz : ZeroFlat X) (n : Nat) {l l' : List Sc} {j off : Nat} {xs : List Sc} {r : Rs} (hx : exec X nt n F S st = some (.storeR l j off xs r st1)) (h1 : StoreR l off xs l') (h2 : updSt j l' st1 = some st2) (h3 : Rn X nt k (.put r.C r.o.dst undefA r.rest r.i) r.S st2 K) : Rn X nt k F S st K := ⟨Run.step hz n hx ⟨l', h1, st2, h2, h3.run⟩⟩

theorem wFrom_none {ρ : Type} {tl : List (Option Nat)} : ∀ {l : BL} {k : List Nat → Option ρ}, (∀ e ∈ l, e.w = false) → wFrom tl l k = k []
  | [], k, _ => rfl
  | ⟨j, w, b, c⟩ :: l, k, h => by
    have := h _ List.mem_cons_self
    have hw : w = false := this
    subst hw
    unfold wFrom
    rw [wFrom_none fun e he => h e (List.mem_cons_of_mem _ he)]
theorem fwdT_flat {ρ : Type} {fj : Nat → Option Nat} {v : AV} {k : AV → Option ρ} (h : v.flat = true) : fwdAVK fj v k = k v := by
  have sc : ∀ {s : Sc} {k : Sc → Option ρ}, flatSc s = true → fwdScK fj s k = k s := fun {s k} h => by
    cases s with
    | ptr a => cases a with
      | none => rfl
      | some a => cases h
    | sl a n f z => cases a with
      | none => rfl
      | some a => cases h
    | fn => cases h
    | _ => rfl
  have ls : ∀ {l : List Sc} {k : List Sc → Option ρ}, allB flatSc l = true → fwdLK fj l k = k l := by
    intro l
    induction l with
    | nil => intro k _; rfl
    | cons a l ih =>
      intro k h
      simp only [allB, Bool.and_eq_true] at h
      unfold fwdLK
      rw [sc h.1, ih h.2]
  have ts : ∀ {l : List (Bool × List Sc)} {k : List (Bool × List Sc) → Option ρ}, allB (fun e => allB flatSc e.2) l = true → fwdTK fj l k = k l := by
    intro l
    induction l with
    | nil => intro k _; rfl
    | cons a l ih =>
      intro k h
      obtain ⟨b, s⟩ := a
      simp only [allB, Bool.and_eq_true] at h
      unfold fwdTK
      rw [ls h.1, ih h.2]
  cases v with
  | one s => exact sc (k := fun s => k (.one s)) h
  | agg l => exact ls (k := fun s => k (.agg s)) h
  | tup l => exact ts (k := fun s => k (.tup s)) h
  | top => rfl

/-- A call that changes nothing, of a function whose value is known. -/
theorem Rn.call0 (hz : ZeroFlat X) (n : Nat) {g : FuncId} {args args0 : List AV} {bl0 : BL} {nb0 : Nat} {v : AV} {r : Rs} {p : P} {dc : DC} {bl : BL} {nb : Nat} {sp : Tk} {ss : Ts} (hx : exec X nt n F S st = some (.call g args r ⟨p, dc, bl, nb, sp, ss⟩)) (c : Ct0 X g args0 bl0 nb0 v) (tl : List (Option Nat))
    (hd : r.C.dr = false) (h1 : lenK tl nb0 = true) (h2 : RvArgs tl args0 args) (h3 : RvBL tl bl bl0) (h4 : nodupB (fromJ tl bl0) = true) (h5 : nodupB (bl0.map Bk.j) = true) (h6 : allB (fun e => !e.w) bl0 = true) (h7 : nodupB (bl.map Bk.j) = true) (hf : v.flat = true)
    (hr : Rn X nt k (.put r.C r.o.dst v r.rest r.i) r.S ⟨p, dc, bl, nb, sp, ss⟩ K) : Rn X nt k F S st K := by
  have hw : ∀ e ∈ bl0, e.w = false := by
    intro e he
    have all : ∀ l : BL, allB (fun e => !e.w) l = true → ∀ e ∈ l, e.w = false := by
      intro l
      induction l with
      | nil => intro _ e he; cases he
      | cons a l ih =>
        intro h e he
        simp only [allB, Bool.and_eq_true] at h
        rcases List.mem_cons.1 he with e1 | e1
        · subst e1; simpa using h.1
        · exact ih h.2 e e1
    exact all _ h6 e he
  refine ⟨Run.step hz n hx (.inl ⟨Unit, _, _, _, tl, args0, bl0, nb0, c, h1, h2, h3, h4, h5, ?_⟩)⟩
  rw [hd]
  intro _
  refine ⟨v, ⟨p, dc, bl, nb, sp, ss⟩, ?_, hr.run⟩
  unfold callSt
  dsimp only
  rw [wFrom_none hw, hd]
  simp only [Bool.false_and, cond_false, delsK, fwdBK, appK, h7, cond_true, jsK, wroteK, wrOK, hd]
  rw [fwdT_flat hf, Nat.sub_self]
  rfl
theorem Rn.call0d (hz : ZeroFlat X) (n : Nat) {g : FuncId} {args args0 : List AV} {bl0 : BL} {nb0 : Nat} {v : AV} {r : Rs} {p : P} {dc : DC} {bl : BL} {nb : Nat} {sp : Tk} {ss : Ts} (hx : exec X nt n F S st = some (.call g args r ⟨p, dc, bl, nb, sp, ss⟩)) (c : Ct0 X g args0 bl0 nb0 v) (tl : List (Option Nat))
    (hd : (r.C.dr && !isW X r.o.op) = true) (h0 : noMask (r.C.bs.getD r.i 0) 0 r.C.ops = true) (h1 : lenK tl nb0 = true) (h2 : RvArgs tl args0 args) (h3 : RvBL tl bl bl0) (h4 : nodupB (fromJ tl bl0) = true) (h5 : nodupB (bl0.map Bk.j) = true) (h6 : allB (fun e => !e.w) bl0 = true) (hf : v.flat = true)
    (hr : Rn X nt k (.put r.C r.o.dst v r.rest r.i) r.S ⟨p, dc, bl, nb, sp, ss⟩ K) : Rn X nt k F S st K := by
  have hw : ∀ e ∈ bl0, e.w = false := by
    intro e he
    have all : ∀ l : BL, allB (fun e => !e.w) l = true → ∀ e ∈ l, e.w = false := by
      intro l
      induction l with
      | nil => intro _ e he; cases he
      | cons a l ih =>
        intro h e he
        simp only [allB, Bool.and_eq_true] at h
        rcases List.mem_cons.1 he with e1 | e1
        · subst e1; simpa using h.1
        · exact ih h.2 e e1
    exact all _ h6 e he
  refine ⟨Run.step hz n hx (.inl ⟨Unit, _, _, _, tl, args0, bl0, nb0, c, h1, h2, h3, h4, h5, ?_⟩)⟩
  rw [hd]
  exact ⟨h0, hw, fun _ => ⟨hf, hr.run⟩⟩
end

theorem Ct.of {X : Env} (hz : ZeroFlat X) {g : FuncId} {fn : Func} {c : Code} {args : List AV} {bl : BL} {nb : Nat} {A : Type} {V : A → AV} {B : A → BL} {nb' : A → Nat} (hE : X.E g = none) (hF : X.F g = some fn) (hb : fn.body = some c) (hlen : Nat.ble args.length fn.ntmps = true)
    (hr : Rn X fn.ntmps nb (.code c) [] ⟨P.args 0 args, [], bl, nb, [], []⟩ (FinK X fn.results.toList nb A V B nb')) : Ct X g args bl nb A V B nb' := Ct.of_run hz hE hF hb hlen hr.run

/-! ### Functions whose answers are known -/
theorem EnvOK.add {P0 : Program} {X : Env} (hX : EnvOK P0 X) {f : FuncId} {g : List AV → Option AV} {fn : Func} (hF : X.F f = some fn) (hn : fn.body.isNone = false) (hg : ∀ args v, g args = some v → v.flat = true → allB AV.flat args = true ∧ ∃ h', CallsA X f args hE v h') :
    EnvOK P0 { X with E := fun f' => bif Nat.beq f' f then some g else X.E f' } where
  mixed := hX.mixed
  T := hX.T
  eq := hX.eq
  F := hX.F
  E f' g' args v h1 h2 h3 := by
    have h1 : (bif Nat.beq f' f then some g else X.E f') = some g' := h1
    cases hb : Nat.beq f' f with
    | false => rw [hb] at h1; exact hX.E f' g' args v h1 h2 h3
    | true =>
      have := Nat.eq_of_beq_eq_true hb
      subst this
      rw [hb, cond_true] at h1
      injection h1 with h1
      subst h1
      obtain ⟨hPF, hname⟩ := hX.F f' fn hF
      refine ⟨fun vs w => ?_, fun ρ vs w hvs => ?_⟩
      · unfold callFunc
        simp only [Sem.run_bind, Result.andThen_ok]
        have hn' : fn.name ≠ "runtime.NumGoroutine" := by simpa using hname
        have hb' : fn.body ≠ none := by intro h; rw [h] at hn; cases hn
        simp [hPF, hn', hb']
      · obtain ⟨hfl, h', n, hc⟩ := hg args v h2 h3
        obtain ⟨_, hc⟩ := call_ok hX n f' args hE v h' hc
        have hvs0 : LR (avR fun _ => none) args vs.toList := by
          have all : ∀ {l : List AV} {l' : List Value}, allB AV.flat l = true → LR (avR ρ) l l' → LR (avR fun _ => none) l l' := by
            intro l
            induction l with
            | nil => intro l' _ r; cases l' with
              | nil => trivial
              | cons => exact r.elim
            | cons a l ih => intro l' hf r; cases l' with
              | nil => exact r.elim
              | cons b l' =>
                simp only [allB, Bool.and_eq_true] at hf
                exact ⟨flat_rel hf.1 r.1, ih hf.2 r.2⟩
          exact all hfl hvs
        refine (hc (fun _ => none) w vs Rel.emp (Nat.le_refl _) (fun _ _ => rfl) hvs0).mono fun e w' ⟨v', ρ', he, hv, hR, hst, hro, _⟩ => ?_
        exact ⟨v', he, flat_rel h3 hv, hst.os, hst.tape, hst.output, hst.size, fun b hb => hst.keep b hb fun ⟨i, l, p, _, h2, _⟩ => (by rw [hE_get] at h2; cases h2), hst.fz⟩

theorem Ct0.callsE {X : Env} {g : FuncId} {args : List AV} {v : AV} (c : Ct0 X g args [] 0 v) (ha : allB AV.flat args = true) (hv : v.flat = true) : ∃ h', CallsA X g args hE v h' := by
  have self : ∀ {l : List AV}, allB AV.flat l = true → LR (RAV fun _ => none) l l := by
    intro l
    induction l with
    | nil => intro _; trivial
    | cons a l ih =>
      intro h
      simp only [allB, Bool.and_eq_true] at h
      exact ⟨RAV.of_flat h.1, ih h.2⟩
  obtain ⟨v', h', hc, a, σ', _, _, _, _, hr, _⟩ := c (fun _ => none) args hE (self ha) ⟨(fun _ h => by cases h), (fun _ h => by cases h), (fun _ h => by cases h), List.nodup_nil, (fun _ h => by cases h)⟩ (Nat.le_refl _) fun _ _ => rfl
  have := RAV.flat hv hr
  subst this
  exact ⟨h', hc⟩
theorem zeroFlat_tyOf (P0 : Program) (t : TypeId) : allB flatSc (tyOf P0 t).zero = true := by
  unfold tyOf
  split
  · split
    · rename_i z hz
      simp only [Option.bind_eq_some_iff] at hz
      obtain ⟨v, _, hz⟩ := hz
      unfold constCells at hz
      split at hz
      · exact constList_flat hz
      · simp only [Option.map_eq_some_iff] at hz
        obtain ⟨s, hs, rfl⟩ := hz
        simp only [allB, Bool.and_true]
        exact constSc_flat hs
    · rfl
  · rfl

end Go.AM
end

section
/- Walks: loops, and lists in blocks. No program here. -/
set_option linter.unusedSimpArgs false
set_option linter.unusedVariables false
namespace Go.AM
open Go

section
variable {X : Env} {nt k : Nat} {K : KC} {F : Fo} {S S' : List Kt} {st st1 : St}

/-- What a round has to come to. -/
def LK (X : Env) (nt k : Nat) (S : List Kt) (K : KC) {T : Type} (m : T → Nat) (I : T → Prop) (ip : T → P) (ib : T → BL) (inb : T → Nat) (t : T) : KC := fun e p' bl' nb' => match e with
  | .norm => ∃ t' tl, m t' < m t ∧ I t' ∧ ReB k tl p' bl' (ip t') (ib t') (inb t')
  | e => Rn X nt k (.leave e) S ⟨p', [], bl', nb', [], []⟩ K
theorem Rn.loop (hz : ZeroFlat X) (n : Nat) {b : Code} (hx : exec X nt n F S st = some (.loop b S' st1)) {T : Type} (m : T → Nat) (I : T → Prop) (ip : T → P) (ib : T → BL) (inb : T → Nat) (t0 : T) (tl0 : List (Option Nat)) (h0 : I t0) (hre : ReB k tl0 st1.p st1.bl (ip t0) (ib t0) (inb t0))
    (hr : ∀ t, I t → Rn X nt k (.code b) [] ⟨ip t, [], ib t, inb t, [], []⟩ (LK X nt k S' K m I ip ib inb t)) : Rn X nt k F S st K := by
  refine ⟨Run.step hz n hx ⟨T, m, I, ip, ib, inb, ⟨t0, tl0, h0, hre⟩, fun t ht => ?_⟩⟩
  intro G hG Q hK
  refine (hr t ht).run G hG Q fun e p bl nb hk => hK e p bl nb ?_
  cases e with
  | norm => exact hk
  | exit id => exact hk.run
  | ret => exact hk.run
theorem Rn.again (hz : ZeroFlat X) (n : Nat) {T : Type} {m : T → Nat} {I : T → Prop} {ip : T → P} {ib : T → BL} {inb : T → Nat} {t : T} {p : P} {bl : BL} {nb : Nat} (hx : exec X nt n F S st = some (.fin .norm p bl nb)) (t' : T) (tl : List (Option Nat)) (h1 : m t' < m t) (h2 : I t') (h3 : ReB k tl p bl (ip t') (ib t') (inb t')) :
    Rn X nt k F S st (LK X nt k S' K m I ip ib inb t) := ⟨Run.step hz n hx ⟨t', tl, h1, h2, h3⟩⟩
def notNorm : Ex → Bool
  | .norm => false
  | _ => true
theorem Rn.out (hz : ZeroFlat X) (n : Nat) {T : Type} {m : T → Nat} {I : T → Prop} {ip : T → P} {ib : T → BL} {inb : T → Nat} {t : T} {e : Ex} {p : P} {bl : BL} {nb : Nat} (hx : exec X nt n F S st = some (.fin e p bl nb)) (he : notNorm e = true) (h1 : Rn X nt k (.leave e) S' ⟨p, [], bl, nb, [], []⟩ K) :
    Rn X nt k F S st (LK X nt k S' K m I ip ib inb t) := by
  refine ⟨Run.step hz n hx ?_⟩
  cases e with
  | norm => cases he
  | exit id => exact h1
  | ret => exact h1
/-- With less known. -/
theorem Rn.weaken {c : Code} {p p2 : P} {bl bl2 : BL} {nb nb2 : Nat} {dc dc2 : DC} {sp sp2 : Tk} {ss ss2 : Ts} (tl : List (Option Nat)) (r : ReB k tl p bl p2 bl2 nb2) (h : Rn X nt k (.code c) S ⟨p2, dc2, bl2, nb2, sp2, ss2⟩ K) : Rn X nt k (.code c) S ⟨p, dc, bl, nb, sp, ss⟩ K := ⟨Run.weaken tl r h.run⟩
end

/-! ### Lists in blocks -/
structure Elt {α : Type} (c : α → List Sc) (s : Nat) : Prop where
  len : ∀ a, (c a).length = s
  flat : ∀ a, allB flatSc (c a) = true
def arr {α : Type} (c : α → List Sc) (xs : List α) : List Sc := xs.flatMap c
section
variable {α : Type} {c : α → List Sc} {s : Nat}
theorem arr_len (e : Elt c s) : ∀ xs : List α, (arr c xs).length = xs.length * s
  | [] => by simp [arr]
  | x :: xs => by
    have := arr_len e xs
    unfold arr at this ⊢
    rw [List.flatMap_cons, List.length_append, this, e.len, List.length_cons, Nat.succ_mul]; omega
theorem arr_drop (e : Elt c s) : ∀ (xs : List α) (i : Nat), (arr c xs).drop (i * s) = arr c (xs.drop i)
  | xs, 0 => by simp
  | [], i + 1 => by simp [arr]
  | x :: xs, i + 1 => by
    unfold arr
    rw [List.flatMap_cons, Nat.succ_mul, Nat.add_comm, ← List.drop_drop, List.drop_left' (e.len x)]
    exact arr_drop e xs i
theorem arr_get (e : Elt c s) {xs : List α} {i : Nat} {a : α} (h : xs[i]? = some a) (f n : Nat) (hf : f + n ≤ s) : ((arr c xs).drop (i * s + f)).take n = ((c a).drop f).take n := by
  rw [← List.drop_drop, arr_drop e]
  have hi : i < xs.length := by
    rcases Nat.lt_or_ge i xs.length with h1 | h1
    · exact h1
    · rw [List.getElem?_eq_none h1] at h; cases h
  have ha : xs[i] = a := by rw [List.getElem?_eq_getElem hi] at h; injection h
  rw [List.drop_eq_getElem_cons hi, ha]
  unfold arr
  rw [List.flatMap_cons, List.drop_append_of_le_length (by rw [e.len]; omega), List.take_append_of_le_length (by rw [List.length_drop, e.len]; omega)]
theorem arr_lt (e : Elt c s) {xs : List α} {i : Nat} {a : α} (h : xs[i]? = some a) {f n : Nat} (hf : f + n ≤ s) : i * s + f + n ≤ (arr c xs).length := by
  rw [arr_len e]
  have hi : i < xs.length := by
    rcases Nat.lt_or_ge i xs.length with h1 | h1
    · exact h1
    · rw [List.getElem?_eq_none h1] at h; cases h
  have : (i + 1) * s ≤ xs.length * s := Nat.mul_le_mul_right s hi
  rw [Nat.succ_mul] at this
  omega
theorem arr_flat (e : Elt c s) : ∀ xs : List α, allB flatSc (arr c xs) = true
  | [] => rfl
  | x :: xs => by
    unfold arr
    rw [List.flatMap_cons]
    exact allB_append (e.flat x) (arr_flat e xs)
theorem arr_append (xs ys : List α) : arr c (xs ++ ys) = arr c xs ++ arr c ys := by simp [arr]
/-- An element that is a struct. -/
theorem LoadR.elt (e : Elt c s) {xs : List α} {i off : Nat} {a : α} (h : xs[i]? = some a) (ho : off = i * s) : LoadR (arr c xs) off s true (.agg (c a)) := by
  subst ho
  have h1 := arr_get e h 0 s (by omega)
  have h2 := arr_lt e h (f := 0) (n := s) (by omega)
  refine ⟨by omega, ?_, e.flat a⟩
  rw [Nat.add_zero] at h1
  rw [h1]
  simp [mkAV, ← e.len a]
/-- A part of an element. -/
theorem LoadR.fld (e : Elt c s) {xs : List α} {i off f : Nat} {a : α} {v : Sc} (h : xs[i]? = some a) (ho : off = i * s + f) (hv : (c a)[f]? = some v) (hf : flatSc v = true) : LoadR (arr c xs) off 1 false (.one v) := by
  subst ho
  have hlt : f < s := by
    rw [← e.len a]
    rcases Nat.lt_or_ge f (c a).length with h1 | h1
    · exact h1
    · rw [List.getElem?_eq_none h1] at hv; cases hv
  have h1 := arr_get e h f 1 (by omega)
  have h2 := arr_lt e h (f := f) (n := 1) (by omega)
  refine ⟨h2, ?_, hf⟩
  rw [h1]
  have hl : f < (c a).length := by rw [e.len]; exact hlt
  rw [List.drop_eq_getElem_cons hl]
  rw [List.getElem?_eq_getElem hl] at hv
  injection hv with hv
  rw [hv]
  rfl
end


/-! ### append -/
theorem cells_arr {α : Type} {c : α → List Sc} {s : Nat} (e : Elt c s) {xs : List α} {n : Nat} (h : n ≤ xs.length) : CellsR (arr c xs) 0 (n * s) (arr c (xs.take n)) := by
  refine ⟨by rw [arr_len e, Nat.zero_add]; exact Nat.mul_le_mul_right s h, ?_⟩
  rw [List.drop_zero]
  have : arr c xs = arr c (xs.take n) ++ arr c (xs.drop n) := by rw [← arr_append, List.take_append_drop]
  rw [this, List.take_left']
  rw [arr_len e, List.length_take, Nat.min_eq_left h]
theorem cells_all {α : Type} {c : α → List Sc} {s : Nat} (e : Elt c s) (xs : List α) : CellsR (arr c xs) 0 (xs.length * s) (arr c xs) := by
  have := cells_arr e (xs := xs) (n := xs.length) (Nat.le_refl _)
  rwa [List.take_length] at this
theorem cells_one {α : Type} {c : α → List Sc} {s : Nat} (e : Elt c s) (a : α) : CellsR (c a) 0 (1 * s) (arr c [a]) := by
  have h := e.len a
  refine ⟨by omega, ?_⟩
  rw [List.drop_zero, List.take_of_length_le (by omega)]
  simp [arr]
theorem Src.raw {size : Nat} {bl : BL} {j o n sz : Nat} {w : Bool} {l xs : List Sc} (h1 : sz = size) (h2 : clOf bl j = some (w, .raw l)) (h3 : CellsR l o (n * size) xs) : Src size bl (some (j, o)) n sz xs := ⟨h1, w, _, h2, h3⟩
theorem Src.ex {size : Nat} {bl : BL} {j o n sz : Nat} {w : Bool} {l xs : List Sc} (h1 : sz = size) (h2 : clOf bl j = some (w, .ex l)) (hf : allB flatSc l = true) (h3 : CellsR l o (n * size) xs) : Src size bl (some (j, o)) n sz xs := ⟨h1, w, _, h2, hf, h3⟩

section
variable {X : Env} {nt k : Nat} {K : KC} {F : Fo} {S S' : List Kt} {st st1 st2 : St}
/-- append to a slice that is full. -/
theorem Rn.appF (hz : ZeroFlat X) (n : Nat) {e : TypeId} {a a' : Option (Nat × Nat)} {sn sz xn sz' : Nat} {full : Bool} {r : Rs} (hx : exec X nt n F S st = some (.app e a sn full sz a' xn sz' r st1)) {old new : List Sc} (L : List Sc) (hs : Src (X.T e).size st1.bl a sn sz old) (hn : Src (X.T e).size st1.bl a' xn sz' new) (hL : old ++ new = L)
    (h3 : (Nat.blt 0 (X.T e).size && lenK (X.T e).zero (X.T e).size) = true) (m : Nat) (hm : sn + xn = m) (hm2 : m ≤ 100000000000) (hby : Nat.ble (X.T e).bytes 100 = true) (h6 : 0 < xn) (hf : full = true ∨ a = none) (hst : appSt r.C r.i L [] st1 = some st2)
    (hr : Rn X nt k (.put r.C r.o.dst (.one (.sl (some (st1.nb, 0)) m false (X.T e).size)) r.rest r.i) r.S st2 K) : Rn X nt k F S st K := by
  subst hL
  subst hm
  have h4 : (sn + xn) * (X.T e).bytes ≤ 35184372088832 := Nat.le_trans (Nat.mul_le_mul hm2 (Nat.le_of_ble_eq_true hby)) (by decide)
  have h5 : sn + xn ≤ 35184372088832 := by omega
  refine ⟨Run.step hz n hx ⟨old, new, hs, hn, h3, h4, h5, fun h => by omega, fun _ => ⟨fun _ => ⟨st2, hst, hr.run⟩, fun hff j o ha => ?_⟩⟩⟩
  rcases hf with h | h
  · rw [hff] at h; cases h
  · rw [h] at ha; cases ha
/-- append to a slice that may have more room. -/
theorem Rn.appN (hz : ZeroFlat X) (n : Nat) {e : TypeId} {j o : Nat} {a' : Option (Nat × Nat)} {sn sz xn sz' : Nat} {r : Rs} (hx : exec X nt n F S st = some (.app e (some (j, o)) sn false sz a' xn sz' r st1)) {old new : List Sc} (L : List Sc) (hs : Src (X.T e).size st1.bl (some (j, o)) sn sz old) (hn : Src (X.T e).size st1.bl a' xn sz' new) (hL : old ++ new = L)
    (h3 : (Nat.blt 0 (X.T e).size && lenK (X.T e).zero (X.T e).size) = true) (m : Nat) (hm : sn + xn = m) (hm2 : m ≤ 100000000000) (hby : Nat.ble (X.T e).bytes 100 = true) (h6 : 0 < xn) {l0 : List Sc} (hc : clOf st1.bl j = some (true, .raw l0)) (hst : appSt r.C r.i L [j] st1 = some st2)
    (hr : Rn X nt k (.put r.C r.o.dst (.one (.sl (some (st1.nb, 0)) m false (X.T e).size)) r.rest r.i) r.S st2 K) : Rn X nt k F S st K := by
  subst hL
  subst hm
  have h4 : (sn + xn) * (X.T e).bytes ≤ 35184372088832 := Nat.le_trans (Nat.mul_le_mul hm2 (Nat.le_of_ble_eq_true hby)) (by decide)
  have h5 : sn + xn ≤ 35184372088832 := by omega
  refine ⟨Run.step hz n hx ⟨old, new, hs, hn, h3, h4, h5, fun h => by omega, fun _ => ⟨fun h => ?_, fun hff j' o' ha => ?_⟩⟩⟩
  · rcases h with h | h <;> cases h
  · injection ha with ha
    injection ha with h1 h2
    subst h1
    exact ⟨_, hc, (fun s h => by cases h), st2, hst, hr.run⟩
/-- append of nothing. -/
theorem Rn.app0 (hz : ZeroFlat X) (n : Nat) {e : TypeId} {a a' : Option (Nat × Nat)} {sn sz xn sz' : Nat} {full : Bool} {r : Rs} (hx : exec X nt n F S st = some (.app e a sn full sz a' xn sz' r st1)) {old new : List Sc} (hs : Src (X.T e).size st1.bl a sn sz old) (hn : Src (X.T e).size st1.bl a' xn sz' new)
    (h3 : (Nat.blt 0 (X.T e).size && lenK (X.T e).zero (X.T e).size) = true) (hm2 : sn + xn ≤ 100000000000) (hby : Nat.ble (X.T e).bytes 100 = true) (h6 : xn = 0) (hst : app0St r.C r.i st1 = some st2)
    (hr : Rn X nt k (.put r.C r.o.dst (.one (nilOr a sn full sz)) r.rest r.i) r.S st2 K) : Rn X nt k F S st K := 
  ⟨Run.step hz n hx ⟨old, new, hs, hn, h3, Nat.le_trans (Nat.mul_le_mul hm2 (Nat.le_of_ble_eq_true hby)) (by decide), by omega, fun _ => ⟨st2, hst, hr.run⟩, fun h => by omega⟩⟩

/-- A function's end. -/
theorem Rn.fin (hz : ZeroFlat X) (n : Nat) {rs : List ResultVar} {A : Type} {V : A → AV} {B : A → BL} {nb' : A → Nat} {v : AV} {e : Ex} {p : P} {bl : BL} {nb : Nat} (hx : exec X nt n F S st = some (.fin e p bl nb)) (hex : exOK e = true) (hv : resV X rs p bl = some v) (a : A) (tl : List (Option Nat)) (h1 : lenK tl (nb' a) = true) (h2 : idTl k tl = true)
    (h3 : RvAV tl (V a) v) (h4 : RvBL tl bl (B a)) (h5 : nodupB (fromJ tl (B a)) = true) (h6 : nodupB ((B a).map Bk.j) = true) (h7 : allB (fun e => e.w && (match e.born with | none => true | some _ => false)) (B a) = true) : Rn X nt k F S st (FinK X rs k A V B nb') := by
  refine ⟨Run.step hz n hx ⟨hex, v, hv, a, tl, h1, h2, h3, h4, h5, h6, ?_⟩⟩
  have all : ∀ l : BL, allB (fun e => e.w && (match e.born with | none => true | some _ => false)) l = true → ∀ e ∈ l, e.born = none ∧ e.w = true := by
    intro l
    induction l with
    | nil => intro _ e he; cases he
    | cons b l ih =>
      intro hl e he
      simp only [allB, Bool.and_eq_true] at hl
      rcases List.mem_cons.1 he with e1 | e1
      · subst e1
        refine ⟨?_, hl.1.1⟩
        cases hb : e.born with
        | none => rfl
        | some k => rw [hb] at hl; simp at hl
      · exact ih hl.2 e e1
  exact all _ h7

/-- A call by what is known of it. -/
theorem Rn.call (hz : ZeroFlat X) (n : Nat) {g : FuncId} {args args0 : List AV} {bl0 : BL} {nb0 : Nat} {A : Type} {V : A → AV} {B : A → BL} {nb' : A → Nat} {r : Rs} (hx : exec X nt n F S st = some (.call g args r st1)) (c : Ct X g args0 bl0 nb0 A V B nb') (tl : List (Option Nat)) (h1 : lenK tl nb0 = true) (h2 : RvArgs tl args0 args) (h3 : RvBL tl st1.bl bl0) (h4 : nodupB (fromJ tl bl0) = true) (h5 : nodupB (bl0.map Bk.j) = true)
    (hd : (r.C.dr && !isW X r.o.op) = false) (hr : ∀ a, ∃ v' st', callSt r.C r.i tl nb0 bl0 (V a) (B a) (nb' a) st1 = some (v', st') ∧ Rn X nt k (.put r.C r.o.dst v' r.rest r.i) r.S st' K) : Rn X nt k F S st K := by
  refine ⟨Run.step hz n hx (.inl ⟨A, V, B, nb', tl, args0, bl0, nb0, c, h1, h2, h3, h4, h5, ?_⟩)⟩
  rw [hd]
  intro a
  obtain ⟨v', st', h6, h7⟩ := hr a
  exact ⟨v', st', h6, h7.run⟩
end

end Go.AM
end
