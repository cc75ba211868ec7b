/- What a walk over lists says of the machine: bodies, and calls. No program here. -/
import Derived.Test.YtlkbcjhemhmfoaaGreatDoorAmX
set_option linter.unusedSimpArgs false
set_option linter.unusedVariables false
namespace Go.AM
open Go

section
variable {X : Env} {nt k : Nat} {C : Cx} {o : Oper} {rest : List Oper} {i : Nat} {S : List Kt} {p : P} {dc : DC} {bl : BL} {nb : Nat} {sp : Tk} {ss : Ts} {K : KC}

/-- An address of an element. -/
theorem Run.opIdx {t : TypeId} {x iv : Operand} {e : TypeId} {j off n sz : Nat} {full : Bool} {ik : IntKind} {z : Int} (ho : o.op = .indexAddr t x iv) (hty : (X.T t).ty = .slice e) (hx : P.ev p x = .one (.sl (some (j, off)) n full sz)) (hi : P.ev p iv = .one (.int ik z)) (hsz : sz = (X.T e).size) (h0 : 0 < (X.T e).size) (hz : 0 ≤ z ∧ z < n)
    (hr : Run X nt k (.put C o.dst (.one (.ptr (some (j, off + z.toNat * sz)))) rest i) S ⟨p, dc, bl, nb, sp, ss⟩ K) : Run X nt k (.op C o rest i) S ⟨p, dc, bl, nb, sp, ss⟩ K := by
  refine Run.opPure (by rw [ho]; rfl) (by rw [ho]; rfl) (by rw [ho]; rfl) (by rw [ho]; rfl) (fun σ ev' he => ?_) hr
  have rx := he x
  rw [hx] at rx
  have ri := he iv
  rw [hi] at ri
  have ri := RAV.flat (v := .one (.int ik z)) rfl ri
  obtain ⟨s', ex, r⟩ := rx
  rcases r with ⟨b, hb, rfl⟩ | ⟨_, hn, _⟩
  · refine ⟨.one (.ptr (some (b, off + z.toNat * sz))), ⟨_, rfl, _, rfl, b, hb, rfl⟩, fun h id => ?_⟩
    rw [ho]
    simp only [aop, ex, ri, aindex, hty]
    rw [if_pos ⟨hz.1, hz.2, hsz, hsz ▸ h0⟩]; rfl
  · omega

theorem numB_of {v : AV} {k : IntKind} {z : Int} {n : Nat} (hv : v = .one (.int k z)) (h1 : 0 ≤ z) (h2 : z ≤ n) : numB v n = some z.toNat := by
  subst hv
  simp only [numB]
  rw [if_pos ⟨h1, h2⟩]
theorem allB_imp {α : Type} {p q : α → Bool} (h : ∀ x, p x = true → q x = true) : ∀ {l : List α}, allB p l = true → allB q l = true
  | [], _ => rfl
  | x :: l, hl => by
    simp only [allB, Bool.and_eq_true] at hl ⊢
    exact ⟨h x hl.1, allB_imp h hl.2⟩
theorem isP_kinds {X : Env} {ev : Operand → AV} {op : Op} (h : isP ev op = true) : isW X op = false ∧ isCall op = false ∧ isN op = false ∧ isL op = false := by
  cases op with
  | call c =>
    obtain ⟨cal, args, ts⟩ := c
    cases cal with
    | builtin b => cases b <;> simp [isP] at h <;> exact ⟨rfl, rfl, rfl, rfl⟩
    | _ => simp [isP] at h
  | _ => first | exact ⟨rfl, rfl, rfl, rfl⟩ | simp [isP] at h
/-- What a bound is. -/
theorem bdI_ok {p : P} {d : Int} {lo : Option Operand} {l : Int} (h : bdI p d lo = some l) : (lo = none ∧ l = d) ∨ ∃ x k, lo = some x ∧ P.ev p x = .one (.int k l) := by
  unfold bdI at h
  split at h
  · injection h with h; exact .inl ⟨rfl, h.symm⟩
  · rename_i x
    split at h
    · rename_i k z e
      injection h with h
      subst h
      exact .inr ⟨x, k, rfl, e⟩
    · cases h
theorem bounds_ok {p : P} {σ : Sg} {ev' : Operand → AV} (he : ∀ x, RAV σ (P.ev p x) (ev' x)) {n : Nat} {lo hi mx : Option Operand} {l h m : Int} (h1 : bdI p 0 lo = some l) (h2 : bdI p n hi = some h) (h3 : bdI p n mx = some m) (hm : mx.isSome = true → hi.isSome = true) (hb : 0 ≤ l ∧ l ≤ h ∧ h ≤ m ∧ m ≤ n) :
    bounds n (lo.map ev') (hi.map ev') (mx.map ev') = some (l.toNat, h.toNat, mx.map fun _ => m.toNat) := by
  have real : ∀ {x : Operand} {k : IntKind} {z : Int}, P.ev p x = .one (.int k z) → ev' x = .one (.int k z) := fun {x k z} e => by
    have := he x
    rw [e] at this
    exact RAV.flat (v := .one (.int k z)) rfl this
  have low : ∀ top : Nat, l ≤ top → lowB (lo.map ev') top = some l.toNat := fun top ht => by
    rcases bdI_ok h1 with ⟨rfl, rfl⟩ | ⟨x, k, rfl, e⟩
    · rfl
    · exact numB_of (real e) hb.1 ht
  rcases bdI_ok h3 with ⟨rfl, rfl⟩ | ⟨xm, km, rfl, em⟩
  · rcases bdI_ok h2 with ⟨rfl, rfl⟩ | ⟨xh, kh, rfl, eh⟩
    · simp only [bounds, Option.map_none]
      rw [low n (by omega)]
      simp
    · simp only [bounds, Option.map_none, Option.map_some]
      rw [numB_of (real eh) (by omega) (by omega), Option.bind_some, low _ (by omega)]
      rfl
  · rcases bdI_ok h2 with ⟨rfl, rfl⟩ | ⟨xh, kh, rfl, eh⟩
    · exact absurd (hm rfl) (by simp)
    · simp only [bounds, Option.map_some]
      rw [numB_of (real em) (by omega) (by omega), Option.bind_some, numB_of (real eh) (by omega) (by omega), Option.bind_some, low _ (by omega)]
      rfl

theorem oexec_ok (hz : ZeroFlat X) {kk : KO} {ev : Ev} (hx : oexec X C i o rest S ⟨p, dc, bl, nb, sp, ss⟩ kk = some ev) (hk : ∀ v st', kk v st' = some ev → Run X nt k (.put C o.dst v rest i) S st' K) (he : EvH X nt k K ev) : Run X nt k (.op C o rest i) S ⟨p, dc, bl, nb, sp, ss⟩ K := by
  unfold oexec at hx
  dsimp only at hx
  split at hx
  · -- load
    rename_i t a ho
    split at hx
    · rename_i j off hpa
      cases hty : (X.T t).ty.isNone with
      | true => rw [hty] at hx; cases hx
      | false =>
        rw [hty, cond_false] at hx
        obtain ⟨w, born, c, hmem, hx⟩ := blk_ok hx
        cases hld : ldOK C i born j ss with
        | false => rw [hld] at hx; cases hx
        | true =>
          rw [hld, cond_true] at hx
          split at hx
          · rename_i l
            obtain ⟨h1, hx⟩ := dropK_ok hx
            obtain ⟨h2, hx⟩ := takeK_ok hx
            obtain ⟨v, hv, hx⟩ := mkK_ok hx
            refine Run.opLoad ho hpa hty hmem rfl hld (fun σ h b hb hent => ?_) (hk v _ hx)
            unfold Ent at hent
            rw [show (⟨j, w, born, .ex l⟩ : Bk).j = j from rfl, hb] at hent
            obtain ⟨l', h3, h4⟩ := hent
            obtain ⟨v', hv', rv⟩ := mkAV_rel2 hv ((h4.drop off).take (X.T t).size)
            refine ⟨?_, _, v', H.load_of h3 ?_, hv', rv⟩
            · unfold Foot; rw [show (⟨j, w, born, .ex l⟩ : Bk).j = j from rfl, hb]
            · have := h4.length; rw [List.length_drop] at h2; omega
          · rename_i l
            injection hx with hx
            subst hx
            obtain ⟨v, ⟨h1, h2, h3⟩, hr⟩ := he
            refine Run.opLoad ho hpa hty hmem rfl hld (fun σ h b hb hent => ?_) hr
            unfold Ent at hent
            rw [show (⟨j, w, born, .raw l⟩ : Bk).j = j from rfl, hb] at hent
            exact ⟨by unfold Foot; rw [show (⟨j, w, born, .raw l⟩ : Bk).j = j from rfl, hb], _, v, H.load_of hent h1, h2, RAV.of_flat h3⟩
          · rename_i r
            split at hx
            · injection hx with hx
              subst hx
              rcases he with ⟨v, ⟨h1, h2⟩, hr⟩ | ⟨h1, h2, h3, m, full, sz, cs, hrow, st', hst, hr⟩
              · refine Run.opLoad ho hpa hty hmem rfl hld (fun σ h b hb hent => ?_) hr
                unfold Ent at hent
                rw [show (⟨j, w, none, .res r⟩ : Bk).j = j from rfl, hb] at hent
                obtain ⟨h3, l, h4, h5⟩ := h2 b h hent
                exact ⟨by unfold Foot; rw [show (⟨j, w, none, .res r⟩ : Bk).j = j from rfl, hb]; exact h3, l, v, h4, h5, RAV.of_flat h1⟩
              · exact Run.opRow ho hpa hty h2 h3 hmem h1 hld hrow hst hr
            · cases hx
    · cases hx
  · -- store
    rename_i t a x ho
    split at hx
    · rename_i j off hpa
      cases hty : (X.T t).ty.isNone with
      | true => rw [hty] at hx; cases hx
      | false =>
        rw [hty, cond_false] at hx
        split at hx
        · rename_i xs hxs
          cases hl : lenK xs (X.T t).size with
          | false => rw [hl] at hx; cases hx
          | true =>
            rw [hl, cond_true] at hx
            obtain ⟨w, born, c, hmem, hx⟩ := blk_ok hx
            cases w with
            | false => cases hx
            | true =>
              rw [cond_true] at hx
              split at hx
              · rename_i l
                obtain ⟨h1, hx⟩ := setK_ok hx
                obtain ⟨bl1, w1, b1, c1, bl2, hbl, hx⟩ := updK_ok hx
                obtain ⟨hwr, sp', ss', hx, htr⟩ := wroteK_ok hx
                have hr := hk _ _ hx
                -- the entry is the one that was found
                intro G hG Q hK c' σ f h s g dcr hlen hw
                have s' : SI G σ p bl nb f h := s
                have : (⟨j, w1, b1, c1⟩ : Bk) = ⟨j, true, born, .ex l⟩ := s'.ok.same (by rw [hbl]; simp) hmem rfl
                injection this with _ e1 e2 e3
                subst e1; subst e2; subst e3
                exact Run.opStore ho hpa hty hxs (lenK_ok hl) hbl (.inl ⟨l, _, rfl, rfl, h1, rfl⟩) hwr htr hr G hG Q hK c' σ f h s g dcr hlen hw
              · rename_i l
                cases hfl : allB flatSc xs with
                | false => rw [hfl] at hx; cases hx
                | true =>
                  rw [hfl, cond_true] at hx
                  obtain ⟨hwr, sp', ss', hx, htr⟩ := wroteK_ok hx
                  injection hx with hx
                  subst hx
                  obtain ⟨l', ⟨h1, h2⟩, st', hst, hr⟩ := he
                  unfold updSt at hst
                  obtain ⟨bl1, w1, b1, c1, bl2, hbl, hst⟩ := updK_ok hst
                  injection hst with hst
                  subst hst
                  intro G hG Q hK c' σ f h s g dcr hlen hw
                  have s' : SI G σ p bl nb f h := s
                  have : (⟨j, w1, b1, c1⟩ : Bk) = ⟨j, true, born, .raw l⟩ := s'.ok.same (by rw [hbl]; simp) hmem rfl
                  injection this with _ e1 e2 e3
                  subst e1; subst e2; subst e3
                  exact Run.opStore ho hpa hty hxs (lenK_ok hl) hbl (.inr ⟨l, l', rfl, rfl, hfl, h1, h2⟩) hwr htr hr G hG Q hK c' σ f h s g dcr hlen hw
              · cases hx
        · cases hx
    · cases hx
  · -- alloc
    rename_i t ho
    cases hty : (X.T t).ty.isNone with
    | true => rw [hty] at hx; cases hx
    | false =>
      rw [hty, cond_false] at hx
      obtain ⟨ss', hx, hss⟩ := newK_ok hx
      refine Run.opNew (v := .one (.ptr (some (nb, 0)))) (by rw [ho]; rfl) (by rw [ho]; rfl) (by rw [ho]; rfl) (fun id => .one (.ptr (some (id, 0)))) (fun σ ev' he' => ⟨(X.T t).zero, .inl ⟨_, rfl, LR.of_flat (hz t)⟩, fun h id => ?_⟩) (fun τ b hb => ⟨_, rfl, _, rfl, b, hb, rfl⟩) hss (hk _ _ hx)
      rw [ho]
      simp only [aop, hty, Bool.false_eq_true, if_false]
  · -- box
    rename_i t x ho
    split at hx
    · rename_i l hl
      obtain ⟨ss', hx, hss⟩ := newK_ok hx
      refine Run.opNew (v := .one (.ptr (some (nb, 0)))) (by rw [ho]; rfl) (by rw [ho]; rfl) (by rw [ho]; rfl) (fun id => .one (.ptr (some (id, 0)))) (fun σ ev' he' => ?_) (fun τ b hb => ⟨_, rfl, _, rfl, b, hb, rfl⟩) hss (hk _ _ hx)
      obtain ⟨l', h1, h2⟩ := cells_rel2 hl (he' x)
      refine ⟨l', .inl ⟨_, rfl, h2⟩, fun h id => ?_⟩
      rw [ho]
      simp only [aop, h1, Option.map_some]
    · cases hx
  · -- build
    rename_i t parts ho
    split at hx
    · rename_i fs hty
      cases hal : allB (fun p => Nat.blt 0 (X.T p.2).size) fs with
      | false => rw [hal] at hx; cases hx
      | true =>
        rw [hal, cond_true] at hx
        obtain ⟨l, hl, hx⟩ := fillK_ok hx
        refine Run.opPure (by rw [ho]; rfl) (by rw [ho]; rfl) (by rw [ho]; rfl) (by rw [ho]; rfl) (fun σ ev' he' => ?_) (hk _ _ hx)
        obtain ⟨l', h1, h2⟩ := fills_rel _ he' _ _ _ _ (LR.of_flat (hz t)) hl
        refine ⟨.agg l', ⟨l', rfl, h2⟩, fun h id => ?_⟩
        have hal' : allB (fun p => decide (0 < (X.T p.2).size)) fs = true := allB_imp (fun p hp => decide_eq_true (Nat.le_of_ble_eq_true hp)) hal
        have hpl : (fun i => match nth fs i with | some p => some (p.1, (X.T p.2).size) | none => none) = fun i => fs[i]?.map fun p => (p.1, (X.T p.2).size) := by
          funext i
          rw [nth_eq]
          cases fs[i]? <;> rfl
        have h1' := Eq.trans (congrArg (fun g => fills g (X.T t).zero (parts.toList.map fun (i, x) => (i, ev' x))) hpl.symm) h1
        rw [ho]
        simp only [aop, hty]
        rw [if_pos hal', h1']; rfl
    · cases hx
  · -- buildSlice
    rename_i t len parts ho
    split at hx
    · rename_i e hty
      cases hal : (Nat.ble (len * (X.T e).size) 1000000 && Nat.blt 0 (X.T e).size && lenK (X.T e).zero (X.T e).size && !(X.T e).ty.isNone) with
      | false => rw [hal] at hx; cases hx
      | true =>
        rw [hal, cond_true] at hx
        have hx := repK_ok hx
        rw [← zeros_reps] at hx
        obtain ⟨l, hl, hx⟩ := fillK_ok hx
        obtain ⟨ss', hx, hss⟩ := newK_ok hx
        simp only [Bool.and_eq_true, Bool.not_eq_true'] at hal
        obtain ⟨⟨⟨a1, a2⟩, a3⟩, a4⟩ := hal
        have hzf : allB flatSc (zeros len (X.T e).zero) = true := by
          rw [zeros_reps]
          have all : ∀ n, allB flatSc (reps (X.T e).zero n) = true := fun n => by
            induction n with
            | zero => rfl
            | succ n ih => exact allB_append (hz e) ih
          exact all len
        refine Run.opNew (v := .one (.sl (some (nb, 0)) len true (X.T e).size)) (by rw [ho]; rfl) (by rw [ho]; rfl) (by rw [ho]; rfl) (fun id => .one (.sl (some (id, 0)) len true (X.T e).size)) (fun σ ev' he' => ?_) (fun τ b hb => ⟨_, rfl, .inl ⟨b, hb, rfl⟩⟩) hss (hk _ _ hx)
        obtain ⟨l', h1, h2⟩ := fills_rel _ he' _ _ _ _ (LR.of_flat hzf) hl
        refine ⟨l', .inl ⟨_, rfl, h2⟩, fun h id => ?_⟩
        rw [ho]
        simp only [aop, hty]
        rw [if_pos ⟨Nat.le_of_ble_eq_true a1, Nat.le_of_ble_eq_true a2, lenK_ok a3, a4⟩, h1]; rfl
    · cases hx
  · -- makeSlice
    rename_i t l0 c0 ho
    split at hx
    · rename_i e hty
      split at hx
      · rename_i k1 n k2 m e1 e2
        cases hal : (lenK (X.T e).zero (X.T e).size && !(X.T e).ty.isNone) with
        | false => rw [hal] at hx; cases hx
        | true =>
          rw [hal, cond_true] at hx
          obtain ⟨ss', hx, hss⟩ := newK_ok hx
          injection hx with hx
          subst hx
          obtain ⟨⟨b1, b2, b3, b4⟩, hr⟩ := he
          subst b2
          rw [Bool.and_eq_true, Bool.not_eq_true'] at hal
          refine Run.opNew (v := .one (.sl (some (nb, 0)) n.toNat true (X.T e).size)) (by rw [ho]; rfl) (by rw [ho]; rfl) (by rw [ho]; rfl) (fun id => .one (.sl (some (id, 0)) n.toNat true (X.T e).size)) (fun σ ev' he' => ⟨_, .inr rfl, fun h id => ?_⟩) (fun τ b hb => ⟨_, rfl, .inl ⟨b, hb, rfl⟩⟩) hss hr
          have r1 := he' l0
          rw [e1] at r1
          have r1 := RAV.flat (v := .one (.int k1 n)) rfl r1
          have r2 := he' c0
          rw [e2] at r2
          have r2 := RAV.flat (v := .one (.int k2 n)) rfl r2
          rw [ho]
          simp only [aop, hty, r1, r2]
          rw [if_pos ⟨b1, Int.le_refl _, b3, b4, hal.2, lenK_ok hal.1⟩]
          simp
      · cases hx
    · cases hx
  · -- field
    rename_i t x fi ho
    split at hx
    · rename_i fs l hty hpx
      split at hx
      · rename_i off ft hf
        cases hn : (X.T ft).ty.isNone with
        | true => rw [hn] at hx; cases hx
        | false =>
          rw [hn, cond_false] at hx
          obtain ⟨h1, hx⟩ := dropK_ok hx
          obtain ⟨h2, hx⟩ := takeK_ok hx
          obtain ⟨v, hv, hx⟩ := mkK_ok hx
          refine Run.opPure (by rw [ho]; rfl) (by rw [ho]; rfl) (by rw [ho]; rfl) (by rw [ho]; rfl) (fun σ ev' he' => ?_) (hk _ _ hx)
          have rx := he' x
          rw [hpx] at rx
          obtain ⟨l', hl', rl⟩ := rx
          obtain ⟨v', hv', rv⟩ := mkAV_rel2 hv ((rl.drop off).take (X.T ft).size)
          refine ⟨v', rv, fun h id => ?_⟩
          rw [nth_eq] at hf
          rw [ho]
          simp only [aop, hty, hl', hf, Option.bind_some]
          rw [if_pos ⟨by have := rl.length; rw [List.length_drop] at h2; omega, hn⟩, hv']; rfl
      · cases hx
    · cases hx
  · -- indexAddr
    rename_i t x iv ho
    split at hx
    · rename_i e hty
      split at hx
      · rename_i j off n full sz ik z hpx hpi
        cases hs : (Nat.beq sz (X.T e).size && Nat.blt 0 (X.T e).size) with
        | false => rw [hs] at hx; cases hx
        | true =>
          rw [hs, cond_true] at hx
          injection hx with hx
          subst hx
          obtain ⟨hA, hr⟩ := he
          rw [Bool.and_eq_true] at hs
          exact Run.opIdx ho hty hpx hpi (Nat.eq_of_beq_eq_true hs.1) (Nat.le_of_ble_eq_true hs.2) hA hr
      · cases hx
    · cases hx
  · -- slice
    rename_i t x lo hi mx ho
    split at hx
    · rename_i e hty
      split at hx
      · rename_i a n full sz hpx
        split at hx
        · rename_i l h m hl hh hm
          cases hs0 : (Nat.blt 0 (X.T e).size && (!mx.isSome || hi.isSome)) with
          | false => rw [hs0] at hx; cases hx
          | true =>
            rw [hs0, cond_true] at hx
            rw [Bool.and_eq_true, Bool.or_eq_true, Bool.not_eq_true'] at hs0
            have hmx : mx.isSome = true → hi.isSome = true := fun h1 => hs0.2.resolve_left (by rw [h1]; simp)
            have hs0 : 0 < (X.T e).size := Nat.le_of_ble_eq_true hs0.1
            have hs0' : (X.T e).size ≠ 0 := by omega
            have fin : ∀ v A, (A → (0 ≤ l ∧ l ≤ h ∧ h ≤ m ∧ m ≤ n)) → (A ∧ Run.Put X nt k v ⟨C, o, rest, i, S⟩ ⟨p, dc, bl, nb, sp, ss⟩ K) →
                (∀ σ ev', (∀ x, RAV σ (P.ev p x) (ev' x)) → A → ∃ s', RAV σ v (.one s') ∧ ∀ hh, aslice X hh t (ev' x) (lo.map ev') (hi.map ev') (mx.map ev') = some s') → Run X nt k (.op C o rest i) S ⟨p, dc, bl, nb, sp, ss⟩ K := by
              intro v A _ ⟨hA, hr⟩ hsem
              refine Run.opPure (by rw [ho]; rfl) (by rw [ho]; rfl) (by rw [ho]; rfl) (by rw [ho]; rfl) (fun σ ev' he' => ?_) hr
              obtain ⟨s', h1, h2⟩ := hsem σ ev' he' hA
              refine ⟨_, h1, fun hh id => ?_⟩
              rw [ho]
              simp only [aop, h2, Option.map_some]
            split at hx
            · injection hx with hx
              subst hx
              refine fin _ _ id he fun σ ev' he' hA => ?_
              have rx := he' x
              rw [hpx] at rx
              obtain ⟨s', ex, r⟩ := rx
              have r : s' = _ := r
              subst r
              refine ⟨.sl none 0 true 0, ⟨_, rfl, rfl⟩, fun hp => ?_⟩
              simp only [aslice, hty, ex]
              rw [if_neg hs0', bounds_ok he' hl hh hm hmx hA]
              rfl
            · rename_i j off
              cases hsz : Nat.beq sz (X.T e).size with
              | false => rw [hsz] at hx; cases hx
              | true =>
                rw [hsz, cond_true] at hx
                have hsz := Nat.eq_of_beq_eq_true hsz
                injection hx with hx
                subst hx
                refine fin _ _ id he fun σ ev' he' hA => ?_
                have rx := he' x
                rw [hpx] at rx
                obtain ⟨s', ex, r⟩ := rx
                rcases r with ⟨b, hb, rfl⟩ | ⟨hb, hn, rfl⟩
                · refine ⟨_, ⟨_, rfl, .inl ⟨b, hb, rfl⟩⟩, fun hp => ?_⟩
                  simp only [aslice, hty, ex]
                  rw [if_neg hs0', bounds_ok he' hl hh hm hmx hA]
                  simp only [Option.bind_some]
                  rw [if_pos hsz]
                  congr 2
                  cases mx with
                  | none =>
                    cases hi with
                    | none =>
                      rcases bdI_ok hh with ⟨_, rfl⟩ | ⟨_, _, e1, _⟩
                      · simp
                      · cases e1
                    | some x => rfl
                  | some x =>
                    simp only [Option.map_some]
                    congr 1
                    exact propext ⟨fun h1 => by omega, fun h1 => by omega⟩
                · have h0 : h.toNat - l.toNat = 0 := by omega
                  refine ⟨.sl none 0 true 0, ⟨_, rfl, .inr ⟨hb, h0, rfl⟩⟩, fun hp => ?_⟩
                  subst hn
                  simp only [aslice, hty, ex]
                  rw [if_neg hs0', bounds_ok he' hl hh hm hmx hA]
                  rfl
        · cases hx
      · cases hx
    · rename_i hty
      split at hx
      · rename_i s hpx
        split at hx
        · rename_i l h hl hh
          injection hx with hx
          subst hx
          obtain ⟨hA, hr⟩ := he
          refine Run.opPure (by rw [ho]; rfl) (by rw [ho]; rfl) (by rw [ho]; rfl) (by rw [ho]; rfl) (fun σ ev' he' => ⟨_, RAV.of_flat rfl, fun h id => ?_⟩) hr
          have rx := he' x
          rw [hpx] at rx
          have rx := RAV.flat (v := .one (.str s)) rfl rx
          rw [ho]
          simp only [aop, aslice, hty, rx, Option.map_none]
          have hb := bounds_ok (mx := none) he' hl hh (m := s.size) rfl (fun h => by cases h) ⟨hA.1, hA.2.1, hA.2.2, Int.le_refl _⟩
          rw [Option.map_none] at hb
          rw [hb]
          simp
        · cases hx
      · cases hx
    · cases hx
  · -- append
    rename_i args ts ho
    split at hx
    · rename_i s0 x0 t u hargs hts
      cases htu : Nat.beq t u with
      | false => rw [htu] at hx; cases hx
      | true =>
        rw [htu, cond_true] at hx
        have := Nat.eq_of_beq_eq_true htu
        subst this
        split at hx
        · rename_i e hty
          split at hx
          · rename_i a sn full sz a' xn full' sz' h1 h2
            injection hx with hx
            subst hx
            exact Run.opApp ho hargs hts hty h1 h2 he
          · cases hx
        · cases hx
    · cases hx
  · -- call
    rename_i f0 args ts ho
    split at hx
    · rename_i g caps hpf
      have hx := appK_ok (evsK_ok (capK_ok hx))
      split at hx
      · rename_i fE hE
        cases hc : (allB AV.flat (args.toList.map (P.ev p) ++ caps.map fun a => .one (.ptr (some a))) && (!C.dr || (noMask (C.bs.getD i 0) 0 C.ops && !isW X o.op))) with
        | false => rw [hc] at hx; cases hx
        | true =>
          rw [hc, cond_true] at hx
          rw [Bool.and_eq_true] at hc
          split at hx
          · rename_i v hv
            cases hvf : v.flat with
            | false => rw [hvf] at hx; cases hx
            | true =>
              rw [hvf, cond_true] at hx
              refine Run.opE ho hpf rfl hE hc.1 (fun hd => ?_) hv hvf (hk _ _ hx)
              have := hc.2
              rw [hd] at this
              simpa using this
          · cases hx
      · injection hx with hx
        subst hx
        exact Run.opCall ho hpf rfl he
    · cases hx
  · -- pure
    split at hx
    · rename_i v hv
      have hP : isP (P.ev p) o.op = true := by
        unfold pop at hv
        cases hp : isP (P.ev p) o.op with
        | true => rfl
        | false => rw [hp] at hv; cases hv
      obtain ⟨k1, k2, k3, k4⟩ := isP_kinds (X := X) hP
      refine Run.opPure k1 k2 k3 k4 (fun σ ev' he' => ?_) (hk _ _ hx)
      obtain ⟨_, v', h1, h2⟩ := pop_rel hz he' hv hE 0
      exact ⟨v', h2, fun h id => pure_indep hP h1 h id⟩
    · cases hx

end
end Go.AM
