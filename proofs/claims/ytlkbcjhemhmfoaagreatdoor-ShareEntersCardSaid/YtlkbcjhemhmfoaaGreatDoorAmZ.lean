/- What a walk over lists says of the machine: bodies, and functions. No program here. -/
import Derived.Test.YtlkbcjhemhmfoaaGreatDoorAmY
set_option linter.unusedSimpArgs false
set_option linter.unusedVariables false
namespace Go.AM
open Go

/-- Room for a region's blocks. -/
theorem SI.region {G : Gh} {σ : Sg} {p : P} {bl : BL} {nb : Nat} {f : FF} {h : H} (s : SI G σ p bl nb f h) (n : Nat) (dr : Bool) :
    SI G σ p (bl.map unborn) nb f { h with nx := h.nx + n } ∧ RG dr h.nx n 0 σ (bl.map unborn) G.h { h with nx := h.nx + n } := by
  obtain ⟨hok, hff⟩ := s.ok.unborn.frame (Sg.le.refl σ) (h' := { h with nx := h.nx + n }) (fun _ _ _ _ => rfl) (Nat.le_add_right _ _) rfl
  have hlow : ∀ e ∈ bl.map unborn, ∀ x, Foot σ { h with nx := h.nx + n } e x → x < h.nx := fun e he x hx => s.ok.unborn.low e he x ((hff e he x).1 hx)
  refine ⟨⟨s.ag, hok, s.top, Nat.le_trans s.nx (Nat.le_add_right _ _), s.ro, s.lo, s.keep, fun e he hw x hx => ?_, s.kn, s.pin⟩, ⟨s.nx, Nat.le_refl _, fun e he x hx k _ _ => ?_, fun _ e he => ?_⟩⟩
  · have hx := (hff e he x).1 hx
    obtain ⟨e0, h1, rfl⟩ := List.mem_map.1 he
    exact s.own e0 h1 hw x hx
  · have := hlow e he x hx; omega
  · obtain ⟨e0, h1, rfl⟩ := List.mem_map.1 he
    intro x hx
    exact .inl (hlow _ he x hx)

theorem bEq_eq (a b : Bool) : bEq a b = (a == b) := by cases a <;> cases b <;> rfl
theorem wanted_of {ops : List Oper} {f : FF} {o oj : Oper} {j d : Nat} {want b : Bool} (hg : o.guard = some (j, want)) (hn : nth ops j = some oj) (hd : oj.dst = some d) (hf : f d = .one (.bool b)) : wantedF ops f o = some (b == want) := by
  rw [nth_eq] at hn
  unfold wantedF
  rw [hg]
  dsimp only
  rw [hn, Option.bind_some, hd]
  dsimp only
  rw [hf]
theorem wanted_undef {ops : List Oper} {f : FF} {o oj : Oper} {j d : Nat} {want : Bool} (hg : o.guard = some (j, want)) (hn : nth ops j = some oj) (hd : oj.dst = some d) (hf : f d = .tup []) : wantedF ops f o = some false := by
  rw [nth_eq] at hn
  unfold wantedF
  rw [hg]
  dsimp only
  rw [hn, Option.bind_some, hd]
  dsimp only
  rw [hf]

theorem dcDelK_ok {ρ : Type} {r : ρ} {n : Nat} : ∀ {dc : DC} {k : DC → Option ρ}, dcDelK n dc k = some r → ∃ dc', k dc' = some r ∧ ∀ d b, dcGet dc' d = some b → d ≠ n ∧ dcGet dc d = some b
  | [], k, h => ⟨[], h, fun d b h => by cases h⟩
  | (d0, b0) :: l, k, h => by
    unfold dcDelK at h
    cases hb : Nat.beq d0 n with
    | true =>
      rw [hb, cond_true] at h
      have := Nat.eq_of_beq_eq_true hb
      subst this
      obtain ⟨dc', h1, h2⟩ := dcDelK_ok h
      refine ⟨dc', h1, fun d b hd => ?_⟩
      obtain ⟨h3, h4⟩ := h2 d b hd
      refine ⟨h3, ?_⟩
      unfold dcGet
      have : Nat.beq d0 d = false := by
        cases hb2 : Nat.beq d0 d with
        | false => rfl
        | true => exact absurd (Nat.eq_of_beq_eq_true hb2).symm h3
      rw [this]; exact h4
    | false =>
      rw [hb, cond_false] at h
      obtain ⟨dc', h1, h2⟩ := dcDelK_ok h
      refine ⟨(d0, b0) :: dc', h1, fun d b hd => ?_⟩
      unfold dcGet at hd ⊢
      cases hb2 : Nat.beq d0 d with
      | true =>
        rw [hb2] at hd
        have := Nat.eq_of_beq_eq_true hb2
        subst this
        refine ⟨fun e => ?_, hd⟩
        subst e
        simp at hb
      | false =>
        rw [hb2] at hd
        exact h2 d b hd
theorem DcR.set {dc dc' : DC} {f : FF} (h : DcR dc f) {n : Nat} (h2 : ∀ d b, dcGet dc' d = some b → d ≠ n ∧ dcGet dc d = some b) (v : AV) : DcR dc' (f.set n v) := fun d b hd => by
  obtain ⟨h3, h4⟩ := h2 d b hd
  unfold FF.set
  have : Nat.beq d n = false := by
    cases hb2 : Nat.beq d n with
    | false => rfl
    | true => exact absurd (Nat.eq_of_beq_eq_true hb2) h3
  rw [this]
  exact h d b h4

section
variable {X : Env} {nt k : Nat} {K : KC}

theorem exec_ok (hz : ZeroFlat X) : ∀ (n : Nat) (F : Fo) (S : List Kt) (st : St) (ev : Ev), exec X nt n F S st = some ev → EvH X nt k K ev → Run X nt k F S st K := by
  intro n
  induction n with
  | zero => intro F S st ev h; cases h
  | succ n ih =>
    intro F S st ev hx he
    obtain ⟨p, dc, bl, nb, sp, ss⟩ := st
    cases F with
    | code c =>
      cases c with
      | skip =>
        have := ih (.leave .norm) S _ ev hx he
        exact fun G hG Q hK σ f h s => RunsF.skip (this G hG Q hK σ f h s)
      | label l =>
        have := ih (.leave .norm) S _ ev hx he
        exact fun G hG Q hK σ f h s => RunsF.label (this G hG Q hK σ f h s)
      | exit id =>
        have := ih (.leave (.exit id)) S _ ev hx he
        exact fun G hG Q hK σ f h s => RunsF.exit (this G hG Q hK σ f h s)
      | ret =>
        have := ih (.leave .ret) S _ ev hx he
        exact fun G hG Q hK σ f h s => RunsF.ret (this G hG Q hK σ f h s)
      | scope b =>
        have := ih (.code b) S _ ev hx he
        exact fun G hG Q hK σ f h s => RunsF.scope (this G hG Q hK σ f h s)
      | seq a b =>
        have := ih (.code a) (.seq b :: S) _ ev hx he
        exact fun G hG Q hK σ f h s => RunsF.seq (this G hG Q hK σ f h s)
      | block id b =>
        have := ih (.code b) (.block id :: S) _ ev hx he
        exact fun G hG Q hK σ f h s => RunsF.block (this G hG Q hK σ f h s)
      | region id ops draw =>
        have hx := oldK_ok (show (oldK bl fun bl => match draw with
          | false => exec X nt n (.reg ⟨ops.toList, false, []⟩ ops.toList 0) S ⟨p, [], bl, nb, [], []⟩
          | true => some (.draw ops.toList S ⟨p, [], bl, nb, [], []⟩)) = some ev from hx)
        cases draw with
        | false =>
          have hr := ih _ S _ ev hx he
          intro G hG Q hK σ f h s
          obtain ⟨s2, g2⟩ := SI.region s ops.toList.length false
          exact RunsF.region (hr G hG Q hK h.nx σ f _ s2 g2 (fun d b h => by cases h) (Nat.zero_add _))
        | true =>
          injection hx with hx
          subst hx
          obtain ⟨bs, hbs, hok, hr⟩ := he
          intro G hG Q hK σ f h s
          obtain ⟨s2, g2⟩ := SI.region s ops.toList.length true
          have := hr G hG Q hK h.nx σ f _ s2 g2 (fun d b h => by cases h) (Nat.zero_add _)
          refine RunsF.dregion hok ?_
          rw [hbs]
          exact this [] [] trivial trivial
      | cond c a b =>
        have hx : (match P.ev p c with
          | .one (.bool t) => some (Ev.split t S (.code a) ⟨p, [], bl, nb, [], []⟩ (.code b) ⟨p, [], bl, nb, [], []⟩)
          | _ => none) = some ev := hx
        split at hx
        · rename_i t ht
          injection hx with hx
          subst hx
          obtain ⟨h1, h2⟩ := he
          intro G hG Q hK σ f h s
          have hc := s.ag.ev c
          rw [ht] at hc
          have hc := RAV.flat (v := .one (.bool t)) rfl hc
          refine RunsF.cond hc ?_
          cases t with
          | true => exact h1 rfl G hG Q hK σ f h s
          | false => exact h2 rfl G hG Q hK σ f h s
        · cases hx
      | loop b =>
        have hx : some (Ev.loop b S ⟨p, dc, bl, nb, sp, ss⟩) = some ev := hx
        injection hx with hx
        subst hx
        obtain ⟨T, m, I, ip, ib, inb, ⟨t0, tl0, hI0, hre⟩, hround⟩ := he
        intro G hG Q hK σ f h s
        refine RunsF.loop (fun k' f h => ∃ t σ, m t = k' ∧ I t ∧ SI G σ (ip t) (ib t) (inb t) f h) (fun k' f h hI => ?_) (m t0) ⟨t0, _, rfl, hI0, hre.ok hG s⟩
        obtain ⟨t, σ, rfl, hI, s⟩ := hI
        refine hround t hI G hG _ (fun e p' bl' nb' hK' σ f h s => ?_) σ f h s
        cases e with
        | norm =>
          obtain ⟨t', tl, hlt, hI', hre'⟩ := hK'
          exact ⟨m t', hlt, t', _, rfl, hI', hre'.ok hG s⟩
        | exit id => exact hK' G hG Q hK σ f h s
        | ret => exact hK' G hG Q hK σ f h s
      | _ => cases hx
    | leave e =>
      cases S with
      | nil =>
        have hx : some (Ev.fin e p bl nb) = some ev := hx
        injection hx with hx
        subst hx
        exact fun G hG Q hK σ f h s => hK e p bl nb he σ f h s
      | cons kt S =>
        cases kt with
        | seq b =>
          cases e with
          | norm => exact fun G hG Q hK σ f h s => ih (.code b) S _ ev hx he G hG Q hK σ f h s
          | exit j => exact fun G hG Q hK σ f h s => ih (.leave (.exit j)) S _ ev hx he G hG Q hK σ f h s
          | ret => exact fun G hG Q hK σ f h s => ih (.leave .ret) S _ ev hx he G hG Q hK σ f h s
        | block id =>
          cases e with
          | norm => exact fun G hG Q hK σ f h s => ih (.leave .norm) S _ ev hx he G hG Q hK σ f h s
          | ret => exact fun G hG Q hK σ f h s => ih (.leave .ret) S _ ev hx he G hG Q hK σ f h s
          | exit j =>
            have hx : (bif Nat.beq j id then exec X nt n (.leave .norm) S ⟨p, dc, bl, nb, sp, ss⟩ else exec X nt n (.leave (.exit j)) S ⟨p, dc, bl, nb, sp, ss⟩) = some ev := hx
            intro G hG Q hK σ f h s
            show (if j = id then stackQ X nt S Q .norm f h else stackQ X nt S Q (.exit j) f h)
            cases hb : Nat.beq j id with
            | true =>
              rw [hb, cond_true] at hx
              rw [if_pos (Nat.eq_of_beq_eq_true hb)]
              exact ih (.leave .norm) S _ ev hx he G hG Q hK σ f h s
            | false =>
              rw [hb, cond_false] at hx
              rw [if_neg (fun e => by subst e; simp at hb)]
              exact ih (.leave (.exit j)) S _ ev hx he G hG Q hK σ f h s
    | reg C rest i =>
      cases rest with
      | nil =>
        have hr := ih (.leave .norm) S _ ev hx he
        exact fun G hG Q hK c σ f h s g dcr hlen => SeqD.nil (hr G hG Q hK σ f h s)
      | cons o rest =>
        unfold exec at hx
        dsimp only at hx
        split at hx
        · rename_i hg
          have hr := ih _ S _ ev hx he
          exact fun G hG Q hK c σ f h s g dcr hlen => hr G hG Q hK c σ f h s g dcr hlen (by unfold wantedF; rw [hg])
        · rename_i j want hg
          split at hx
          · rename_i oj hn
            split at hx
            · rename_i d hd
              have skip : ∀ p2 dc2, exec X nt n (.put C o.dst undefA rest i) S ⟨p2, dc2, bl, nb, sp, ss⟩ = some ev → Run X nt k (.put C o.dst undefA rest i) S ⟨p2, dc2, bl, nb, sp, ss⟩ K := fun p2 dc2 hx => ih _ S _ ev hx he
              have skip2 : ∀ {p2 dc2}, Run X nt k (.put C o.dst undefA rest i) S ⟨p2, dc2, bl, nb, sp, ss⟩ K → ∀ G : Gh, G.k = k → ∀ Q, (∀ e p bl nb, K e p bl nb → ∀ σ f h, SI G σ p bl nb f h → Q e f h) → ∀ c σ f h, SI G σ p2 bl nb f h → RG C.dr c C.ops.length i σ bl G.h h → DcR dc2 f → i + (rest.length + 1) = C.ops.length → wantedF C.ops f o = some false → SeqD X nt C c i (o :: rest) f h σ bl sp ss (stackQ X nt S Q .norm) := by
                intro p2 dc2 hr G hG Q hK c σ f h s g dcr hlen hw
                obtain ⟨f1, hp, hs⟩ := hr G hG Q hK c σ f h undefA s (RAV.of_flat rfl) g.next dcr hlen
                exact SeqD.skip hw hp hs
              split at hx
              · rename_i b hb
                split at hx
                · rename_i hbe
                  have hr := ih _ S _ ev hx he
                  rw [bEq_eq] at hbe
                  exact fun G hG Q hK c σ f h s g dcr hlen => hr G hG Q hK c σ f h s g dcr hlen (by rw [wanted_of hg hn hd (dcr d b hb), hbe])
                · rename_i hbe
                  rw [bEq_eq] at hbe
                  exact fun G hG Q hK c σ f h s g dcr hlen => skip2 (skip _ _ hx) G hG Q hK c σ f h s g dcr hlen (by rw [wanted_of hg hn hd (dcr d b hb), hbe])
              · rename_i hdc
                split at hx
                · rename_i b hb
                  have over : ∀ {G : Gh} {σ : Sg} {f : FF} {h : H}, SI G σ p bl nb f h → DcR dc f → f d = .one (.bool b) ∧ SI G σ ((d, .one (.bool b)) :: p) bl nb f h ∧ DcR ((d, b) :: dc) f := fun {G σ f h} s dcr => by
                    have hv := s.ag d
                    rw [hb] at hv
                    have hv := RAV.flat (v := .one (.bool b)) rfl hv
                    refine ⟨hv, ⟨s.ag.over d (by rw [hv]; exact RAV.of_flat rfl), s.ok, s.top, s.nx, s.ro, s.lo, s.keep, s.own, s.kn, s.pin⟩, fun d' b' hd' => ?_⟩
                    unfold dcGet at hd'
                    cases hdd : Nat.beq d d' with
                    | true =>
                      rw [hdd, cond_true] at hd'
                      injection hd' with hd'
                      have := Nat.eq_of_beq_eq_true hdd
                      subst this; subst hd'; exact hv
                    | false => rw [hdd] at hd'; exact dcr d' b' hd'
                  intro G hG Q hK c σ f h s g dcr hlen
                  obtain ⟨hv, s2, dcr2⟩ := over s dcr
                  cases want with
                  | true =>
                    injection hx with hx
                    subst hx
                    obtain ⟨h1, h2⟩ := he
                    cases b with
                    | true => exact h1 rfl G hG Q hK c σ f h s2 g dcr2 hlen (by rw [wanted_of hg hn hd hv]; rfl)
                    | false => exact skip2 (h2 rfl) G hG Q hK c σ f h s2 g dcr2 hlen (by rw [wanted_of hg hn hd hv]; rfl)
                  | false =>
                    injection hx with hx
                    subst hx
                    obtain ⟨h1, h2⟩ := he
                    cases b with
                    | true => exact skip2 (h1 rfl) G hG Q hK c σ f h s2 g dcr2 hlen (by rw [wanted_of hg hn hd hv]; rfl)
                    | false => exact h2 rfl G hG Q hK c σ f h s2 g dcr2 hlen (by rw [wanted_of hg hn hd hv]; rfl)
                · rename_i hb
                  intro G hG Q hK c σ f h s g dcr hlen
                  have s' : SI G σ p bl nb f h := s
                  have hv := s'.ag d
                  rw [hb] at hv
                  have hv := RAV.flat (v := .tup []) rfl hv
                  exact skip2 (skip _ _ hx) G hG Q hK c σ f h s g dcr hlen (wanted_undef hg hn hd hv)
                · cases hx
            · cases hx
          · cases hx
    | op C o rest i => exact oexec_ok hz hx (fun v st' hx => ih _ S _ ev hx he) he
    | put C dst v rest i =>
      unfold exec at hx
      unfold putK at hx
      dsimp only at hx
      intro G hG Q hK c σ f h v' s rv g dcr hlen
      have s : SI G σ p bl nb f h := s
      split at hx
      · have hr := ih _ S _ ev hx he
        exact ⟨f, rfl, hr G hG Q hK c σ f h s g dcr (by omega)⟩
      · rename_i d
        cases hlt : Nat.blt d nt with
        | false => rw [hlt] at hx; cases hx
        | true =>
          rw [hlt, cond_true, forceK_eq] at hx
          obtain ⟨dc', hx, hdc⟩ := dcDelK_ok hx
          have hr := ih _ S _ ev hx he
          refine ⟨f.set d v', ?_, hr G hG Q hK c σ _ h ⟨s.ag.set d rv, s.ok, s.top, s.nx, s.ro, s.lo, s.keep, s.own, s.kn, s.pin⟩ g (DcR.set dcr hdc v') (by omega)⟩
          unfold putF
          dsimp only
          rw [if_pos (show d < nt from Nat.le_of_ble_eq_true hlt)]

/-- On to the first thing that has to be shown. -/
theorem Run.step (hz : ZeroFlat X) {F : Fo} {S : List Kt} {st : St} (n : Nat) {ev : Ev} (hx : exec X nt n F S st = some ev) (he : EvH X nt k K ev) : Run X nt k F S st K := exec_ok hz n F S st ev hx he
end

/-! ### Functions -/
noncomputable section
variable {ρ : Type}
def resK (X : Env) (p : P) (bl : BL) (r : ResultVar) (k : Bool × List Sc → Option ρ) : Option ρ := match r with
  | .tmp t => (match P.get p t with | .one s => k (false, [s]) | .agg l => k (true, l) | _ => none)
  | .cell a t => match P.get p a with
    | .one (.ptr (some (j, off))) => bif (X.T t).ty.isNone then none else blk bl j fun _ _ c => match c with
      | .ex l => dropK l off fun l1 => takeK l1 (X.T t).size fun xs => (match (X.T t).isAgg with | true => k (true, xs) | false => (match xs with | [s] => k (false, [s]) | _ => none))
      | _ => none
    | _ => none
def ressK (X : Env) (p : P) (bl : BL) : List ResultVar → (List (Bool × List Sc) → Option ρ) → Option ρ
  | [], k => k []
  | r :: rs, k => resK X p bl r fun x => ressK X p bl rs fun l => k (x :: l)
def resV (X : Env) (rs : List ResultVar) (p : P) (bl : BL) : Option AV := ressK X p bl rs fun l => match l with
  | [x] => elAV x
  | l => some (.tup l)
end

theorem resK_ok {X : Env} {ρ : Type} {r0 : ρ} {G : Gh} {σ : Sg} {p : P} {bl : BL} {nb : Nat} {f : FF} {h : H} (s : SI G σ p bl nb f h) {r : ResultVar} {k : Bool × List Sc → Option ρ} (hr : resK X p bl r k = some r0) : ∃ x y, k x = some r0 ∧ resultF X f h r = some y ∧ REl σ x y := by
  cases r with
  | tmp t =>
    unfold resK at hr
    dsimp only at hr
    have hv := s.ag t
    split at hr
    · rename_i sc e
      rw [e] at hv
      obtain ⟨s', e', rs⟩ := hv
      exact ⟨_, (false, [s']), hr, by simp only [resultF, e', avEl], rfl, rs, trivial⟩
    · rename_i l e
      rw [e] at hv
      obtain ⟨l', e', rs⟩ := hv
      exact ⟨_, (true, l'), hr, by simp only [resultF, e', avEl], rfl, rs⟩
    · cases hr
  | cell a t =>
    unfold resK at hr
    dsimp only at hr
    have hv := s.ag a
    split at hr
    · rename_i j off e
      rw [e] at hv
      obtain ⟨s', e', a', rfl, b, hb, rfl⟩ := hv
      cases hty : (X.T t).ty.isNone with
      | true => rw [hty] at hr; cases hr
      | false =>
        rw [hty, cond_false] at hr
        obtain ⟨w, born, c, hmem, hr⟩ := blk_ok hr
        split at hr
        · rename_i l
          obtain ⟨h1, hr⟩ := dropK_ok hr
          obtain ⟨h2, hr⟩ := takeK_ok hr
          have hent := s.ok.ent _ hmem
          unfold Ent at hent
          rw [show (⟨j, w, born, .ex l⟩ : Bk).j = j from rfl, hb] at hent
          obtain ⟨l', h3, h4⟩ := hent
          have h5 := H.load_of (off := off) (n := (X.T t).size) h3 (by have := h4.length; rw [List.length_drop] at h2; omega)
          have rl := (h4.drop off).take (X.T t).size
          simp only [resultF, e', hty, Bool.false_eq_true, if_false, h5, Option.bind_some]
          split at hr
          · rename_i hag
            exact ⟨_, (true, (l'.drop off).take (X.T t).size), hr, by simp only [hag, mkAV, if_true, Option.bind_some, avEl], rfl, rl⟩
          · rename_i hag
            split at hr
            · rename_i sc e1
              rw [e1] at rl
              generalize (l'.drop off).take (X.T t).size = l2 at rl ⊢
              match l2, rl with
              | [s2], rl => exact ⟨_, (false, [s2]), hr, by simp only [hag, mkAV, Bool.false_eq_true, if_false, Option.bind_some, avEl], rfl, rl⟩
              | [], rl => exact rl.elim
              | _ :: _ :: _, rl => exact rl.2.elim
            · cases hr
        · cases hr
    · cases hr
theorem ressK_ok {X : Env} {ρ : Type} {r0 : ρ} {G : Gh} {σ : Sg} {p : P} {bl : BL} {nb : Nat} {f : FF} {h : H} (s : SI G σ p bl nb f h) : ∀ {rs : List ResultVar} {k : List (Bool × List Sc) → Option ρ}, ressK X p bl rs k = some r0 →
    ∃ l l', k l = some r0 ∧ allSome (rs.map (resultF X f h)) = some l' ∧ LR (REl σ) l l'
  | [], k, hr => ⟨[], [], hr, rfl, trivial⟩
  | r :: rs, k, hr => by
    unfold ressK at hr
    obtain ⟨x, y, h1, h2, h3⟩ := resK_ok s hr
    obtain ⟨l, l', h4, h5, h6⟩ := ressK_ok s h1
    exact ⟨x :: l, y :: l', h4, by simp only [List.map_cons, allSome, h2, Option.bind_some, h5, Option.map_some], h3, h6⟩
theorem resV_ok {X : Env} {G : Gh} {σ : Sg} {p : P} {bl : BL} {nb : Nat} {f : FF} {h : H} (s : SI G σ p bl nb f h) {fn : Func} {v : AV} (hr : resV X fn.results.toList p bl = some v) : ∃ v', resultsF X fn f h = some v' ∧ RAV σ v v' := by
  unfold resV at hr
  obtain ⟨l, l', h1, h2, h3⟩ := ressK_ok s hr
  unfold resultsF
  rw [h2, Option.bind_some]
  match l, l', h3, h1 with
  | [x], [y], h3, h1 =>
    obtain ⟨v', e, rv⟩ := elAV_rel2 h1 h3.1
    exact ⟨v', e, rv⟩
  | [], [], _, h1 => injection h1 with h1; subst h1; exact ⟨_, rfl, [], rfl, trivial⟩
  | x :: y :: l, x' :: y' :: l', h3, h1 => injection h1 with h1; subst h1; exact ⟨_, rfl, _, rfl, h3⟩
  | [], _ :: _, h3, _ => exact h3.elim
  | [_], [], h3, _ => exact h3.elim
  | [_], _ :: _ :: _, h3, _ => exact h3.2.elim
  | _ :: _ :: _, [], h3, _ => exact h3.elim
  | _ :: _ :: _, [_], h3, _ => exact h3.2.elim

def exOK : Ex → Bool
  | .exit _ => false
  | _ => true
/-- At a function's end. -/
def FinK (X : Env) (rs : List ResultVar) (nb0 : Nat) (A : Type) (V : A → AV) (B : A → BL) (nb' : A → Nat) : KC := fun e p bl nb =>
  exOK e = true ∧ ∃ v, resV X rs p bl = some v ∧ ∃ a tl, lenK tl (nb' a) = true ∧ idTl nb0 tl = true ∧ RvAV tl (V a) v ∧ RvBL tl bl (B a) ∧ nodupB (fromJ tl (B a)) = true ∧ nodupB ((B a).map Bk.j) = true ∧ ∀ e ∈ B a, e.born = none ∧ e.w = true

theorem Ct.of_run {X : Env} (hz : ZeroFlat X) {g : FuncId} {fn : Func} {c : Code} {args : List AV} {bl : BL} {nb : Nat} {A : Type} {V : A → AV} {B : A → BL} {nb' : A → Nat} (hE : X.E g = none) (hF : X.F g = some fn) (hb : fn.body = some c) (hlen : Nat.ble args.length fn.ntmps = true)
    (hr : Run X fn.ntmps nb (.code c) [] ⟨P.args 0 args, [], bl, nb, [], []⟩ (FinK X fn.results.toList nb A V B nb')) : Ct X g args bl nb A V B nb' := by
  intro σ args' h hargs hbl hro htop
  refine CallsQ.of_bodyF hE hF hb (by rw [← hargs.length]; exact Nat.le_of_ble_eq_true hlen) ?_
  refine hr ⟨h, WrB σ bl h, σ, nb⟩ rfl _ (fun e p bl' nb2 hK σ2 f h2 s2 => ?_) σ (FF.of args') h ⟨Ag.args hargs, hbl, htop, Nat.le_refl _, rfl, hro, fun _ _ _ => rfl, fun e he hw i hi => .inr ⟨e, he, hw, hi⟩, Nat.le_refl _, fun _ _ => rfl⟩
  obtain ⟨hex, v, hv, a, tl, h1, h2', h3, h4, h5, h6, h7⟩ := hK
  obtain ⟨v', hv', rv⟩ := resV_ok s2 hv
  obtain ⟨hok, hold⟩ := h4.ok h5 h6 s2.ok
  refine ⟨(by cases e with | norm => exact .inl rfl | ret => exact .inr rfl | exit j => cases hex), v', hv', a, reσ tl σ2, fun j hj => (idTl_ok h2' σ2 j hj).trans (s2.pin j hj), fun j hj => ?_, s2.nx, s2.ro, RvAV_ok h3 rv, hok, s2.keep, fun e he i hi => ?_, fun e he => (h7 e he).1⟩
  · unfold reσ
    rw [nth_eq, List.getElem?_eq_none (by rw [lenK_ok h1]; exact hj)]
  · obtain ⟨e', h8, _, h9, h10⟩ := hold e he i hi
    exact s2.own e' h8 (h9 (h7 e he).2) i h10

end Go.AM
