/- What a walk over lists says of the machine: each operation. No program here. -/
import Derived.Test.YtlkbcjhemhmfoaaGreatDoorAmW
set_option linter.unusedSimpArgs false
set_option linter.unusedVariables false
namespace Go.AM
open Go

section
variable {X : Env} {nt k : Nat} {C : Cx} {o : Oper} {rest : List Oper} {i : Nat} {S : List Kt} {p : P} {dc : DC} {bl : BL} {nb : Nat} {sp : Tk} {ss : Ts} {K : KC}

theorem Run.opPure {v : AV} (hW : isW X o.op = false) (hc : isCall o.op = false) (hN : isN o.op = false) (hL : isL o.op = false)
    (ha : ∀ σ ev', (∀ x, RAV σ (P.ev p x) (ev' x)) → ∃ v', RAV σ v v' ∧ ∀ h id, aop X ev' h id o.op = some (v', h))
    (hr : Run X nt k (.put C o.dst v rest i) S ⟨p, dc, bl, nb, sp, ss⟩ K) : Run X nt k (.op C o rest i) S ⟨p, dc, bl, nb, sp, ss⟩ K := by
  intro G hG Q hK c σ f h s g dcr hlen hw
  obtain ⟨v', rv, hv⟩ := ha σ f.ev s.ag.ev
  obtain ⟨f1, hp, hs⟩ := hr G hG Q hK c σ f h v' s rv g.next dcr hlen
  exact SeqD.pure hw hW hc hN hL (fun h => hv h _) hp hs

theorem Run.opNew {v : AV} {cl : Cl} {ss' : Ts} (hW : isW X o.op = false) (hc : isCall o.op = false) (hN : isN o.op = true) (mk : Nat → AV)
    (ha : ∀ σ ev', (∀ x, RAV σ (P.ev p x) (ev' x)) → ∃ l', ((∃ l, cl = .ex l ∧ LR (RSc σ) l l') ∨ cl = .raw l') ∧ ∀ h id, aop X ev' h id o.op = some (mk id, h.put id l'))
    (hv : ∀ (τ : Sg) b, τ nb = some (some b) → RAV τ v (mk b)) (hss : C.dr = true → ss' = ss.map (modsT [nb]))
    (hr : Run X nt k (.put C o.dst v rest i) S ⟨p, dc, ⟨nb, true, some i, cl⟩ :: bl, nb + 1, sp, ss'⟩ K) : Run X nt k (.op C o rest i) S ⟨p, dc, bl, nb, sp, ss⟩ K := by
  intro G hG Q hK c σ f h s g dcr hlen hw
  have s : SI G σ p bl nb f h := s
  have g : RG C.dr c C.ops.length i σ bl G.h h := g
  obtain ⟨l', hl, hop⟩ := ha σ f.ev s.ag.ev
  have hi : i < C.ops.length := by omega
  obtain ⟨s2, g2, hle, hk⟩ := s.new g hi hl
  obtain ⟨f1, hp, hs⟩ := hr G hG Q hK c _ f _ (mk (c + i)) s2 (hv _ _ (Sg.upd_at ..)) g2 dcr hlen
  have hlt : ∀ e ∈ bl, e.j < nb := fun e he => (s.ok.ent e he).ne_top s.top
  have kp : Kept [nb] σ (σ.upd nb (some (c + i))) bl (⟨nb, true, some i, cl⟩ :: bl) h (h.put (c + i) l') := ⟨fun e he _ => List.mem_cons_of_mem _ he, fun e he hm => by
    rcases List.mem_cons.1 he with e1 | e1
    · subst e1; simp [memN] at hm
    · exact e1, fun e he _ x => hk e he x⟩
  refine SeqD.new hw hW hc hN (fun h => hop h _) hp (fun hd SP SS h1 h2 => ⟨tk_new hlt kp h1, ?_⟩) hs
  rw [show (⟨p, dc, ⟨nb, true, some i, cl⟩ :: bl, nb + 1, sp, ss'⟩ : St).ss = ss' from rfl, hss hd]
  exact kp.ts h2

theorem same_before {C : Cx} {i : Nat} {born : Option Nat} {j : Nat} {ss : Ts} (hd : C.dr = true) (hl : ldOK C i born j ss = true) {σ : Sg} {bl : BL} {h : H} {SS : List Sn} (r : LR (TsR σ bl h) ss SS) {e : Bk} (he : e ∈ bl) (hj : e.j = j) {b off : Nat} {l : List Sc} (hf : Foot σ h e b) {n : Nat} (hld : h.load b off n = some l) : sameBefore (C.bs.getD i 0) b off l SS = true := by
  unfold ldOK at hl
  rw [hd, cond_true, Bool.and_eq_true] at hl
  replace hl := hl.2
  unfold sameBefore
  induction ss generalizing SS with
  | nil => cases SS with
    | nil => rfl
    | cons => exact r.elim
  | cons t ss ih => cases SS with
    | nil => exact r.elim
    | cons sn SS =>
      simp only [allB, Bool.and_eq_true] at hl ⊢
      refine ⟨?_, ih r.2 hl.2⟩
      obtain ⟨h1, h2⟩ := r.1
      rw [h1]
      have := hl.1
      rw [Bool.or_eq_true] at this ⊢
      rcases this with h3 | h3
      · exact .inl h3
      · rw [Bool.not_eq_true'] at h3
        refine .inr ?_
        rw [decide_eq_true_iff, load_len hld]
        exact load_get2 (h2 e he (by rw [hj]; exact h3) b hf) hld
theorem born_ok {C : Cx} {i : Nat} {born : Option Nat} {j : Nat} {ss : Ts} (hd : C.dr = true) (hl : ldOK C i born j ss = true) {c len : Nat} {σ : Sg} {bl : BL} {h0 h : H} (g : RG C.dr c len i σ bl h0 h) {e : Bk} (he : e ∈ bl) (hj : e.j = j) (hb : e.born = born) {b : Nat} (hσ : σ j = some (some b)) (hf : Foot σ h e b) : b < c ∨ c + len ≤ b ∨ (C.bs.getD i 0).testBit (b - c) = true := by
  unfold ldOK at hl
  rw [hd, cond_true, Bool.and_eq_true] at hl
  have := g.born hd e he
  rw [hb] at this
  cases born with
  | none => rcases this b hf with h1 | h1
            · exact .inl h1
            · exact .inr (.inl h1)
  | some k =>
    have := this b (by rw [hj]; exact hσ)
    subst this
    refine .inr (.inr ?_)
    rw [Nat.add_sub_cancel_left]
    exact hl.1

theorem Run.opLoad {t : TypeId} {a : Operand} {j off : Nat} {v : AV} {e : Bk} (ho : o.op = .load t a) (hpa : P.ev p a = .one (.ptr (some (j, off)))) (hty : (X.T t).ty.isNone = false) (he : e ∈ bl) (hj : e.j = j) (hld : ldOK C i e.born j ss = true)
    (hsem : ∀ (σ : Sg) h b, σ j = some (some b) → Ent σ h e → Foot σ h e b ∧ ∃ l' v', h.load b off (X.T t).size = some l' ∧ mkAV (X.T t).isAgg l' = some v' ∧ RAV σ v v')
    (hr : Run X nt k (.put C o.dst v rest i) S ⟨p, dc, bl, nb, (bif C.dr then (i, j, false) :: sp else sp), ss⟩ K) : Run X nt k (.op C o rest i) S ⟨p, dc, bl, nb, sp, ss⟩ K := by
  intro G hG Q hK c σ f h s g dcr hlen hw
  have s : SI G σ p bl nb f h := s
  have g : RG C.dr c C.ops.length i σ bl G.h h := g
  have hx := s.ag.ev a
  rw [hpa] at hx
  obtain ⟨s', hev, a', rfl, b, hb, rfl⟩ := hx
  obtain ⟨hf, l', v', h1, h2, h3⟩ := hsem σ h b hb (s.ok.ent e he)
  obtain ⟨f1, hp, hs⟩ := hr G hG Q hK c σ f h v' s h3 g.next dcr hlen
  refine SeqD.load hw ho hev hty h1 h2 hp (fun hd => born_ok hd hld g he hj rfl hb hf) (fun hd SS h4 => same_before hd hld h4 he hj hf h1) (fun hd SP SS h4 h5 => ⟨?_, h5⟩) hs
  rw [show (⟨p, dc, bl, nb, (bif C.dr then (i, j, false) :: sp else sp), ss⟩ : St).sp = (bif C.dr then (i, j, false) :: sp else sp) from rfl, hd, cond_true]
  exact ⟨⟨rfl, fun _ => ⟨e, he, hj, hf, by show h.load b off l'.length = some l'; rw [load_len h1]; exact h1⟩⟩, h4⟩

theorem Run.opRow {t : TypeId} {a : Operand} {j off m sz : Nat} {full : Bool} {cs : List Sc} {r : Res} {st' : St} {w : Bool} (ho : o.op = .load t a) (hpa : P.ev p a = .one (.ptr (some (j, off)))) (hty : (X.T t).ty.isNone = false) (hsz : (X.T t).size = 1) (hag : (X.T t).isAgg = false)
    (he : (⟨j, w, none, .res r⟩ : Bk) ∈ bl) (hw0 : w = false) (hld : ldOK C i none j ss = true) (hrow : LoadRow r off m full sz cs) (hst : rowSt C cs ⟨p, dc, bl, nb, (bif C.dr then (i, j, false) :: sp else sp), ss⟩ = some st')
    (hr : Run X nt k (.put C o.dst (.one (.sl (some (nb, 0)) m full sz)) rest i) S st' K) : Run X nt k (.op C o rest i) S ⟨p, dc, bl, nb, sp, ss⟩ K := by
  subst hw0
  intro G hG Q hK c σ f h s g dcr hlen hw
  have s : SI G σ p bl nb f h := s
  have g : RG C.dr c C.ops.length i σ bl G.h h := g
  obtain ⟨ss', hst', hss⟩ := newK_ok (show newK C nb ss (fun ss' => some (⟨p, dc, ⟨nb, false, none, .raw cs⟩ :: bl, nb + 1, (bif C.dr then (i, j, false) :: sp else sp), ss'⟩ : St)) = some st' from hst)
  injection hst' with hst'
  subst hst'
  have hx := s.ag.ev a
  rw [hpa] at hx
  obtain ⟨s', hev, a', rfl, b, hb, rfl⟩ := hx
  have hent := s.ok.ent _ he
  have hR : r.R b h := by unfold Ent at hent; rw [show (⟨j, false, none, .res r⟩ : Bk).j = j from rfl, hb] at hent; exact hent
  have hfo : ∀ x, Foot σ h ⟨j, false, none, .res r⟩ x ↔ r.F b h x := fun x => by unfold Foot; rw [show (⟨j, false, none, .res r⟩ : Bk).j = j from rfl, hb]
  obtain ⟨hfb, hrow⟩ := hrow b h hR
  have hlt : ∀ e ∈ bl, e.j < nb := fun e he => (s.ok.ent e he).ne_top s.top
  have main : ∀ (ro : Option Nat) (l' : List Sc) (v' : AV), h.load b off 1 = some l' → mkAV false l' = some v' → RAV (σ.upd nb ro) (.one (.sl (some (nb, 0)) m full sz)) v' →
      Ent (σ.upd nb ro) h ⟨nb, false, none, .raw cs⟩ → (∀ x, Foot (σ.upd nb ro) h ⟨nb, false, none, .raw cs⟩ x → r.F b h x) → SeqD X nt C c i (o :: rest) f h σ bl sp ss (stackQ X nt S Q .norm) := by
    intro ro l' v' h1 h2 h3 h4 h5
    have hle : σ.le (σ.upd nb ro) := Sg.upd_le (s.top nb (Nat.le_refl _)) _
    have hff : ∀ e ∈ bl, ∀ x, Foot (σ.upd nb ro) h e x ↔ Foot σ h e x := fun e he x => Foot.mono hle (s.ok.ent e he) x
    obtain ⟨hok, _⟩ := s.ok.frame hle (fun _ _ _ _ => rfl) (Nat.le_refl _) rfl
    have s2 : SI G (σ.upd nb ro) p (⟨nb, false, none, .raw cs⟩ :: bl) (nb + 1) f h := by
      refine ⟨s.ag.mono hle, hok.cons h4 (fun x hx => s.ok.low _ he x ((hfo x).2 (h5 x hx))) (fun hx => by cases hx) (fun e' he' => Nat.ne_of_lt (hlt e' he')) (fun e' he' hw' x hx hx' => ?_), Sg.upd_top s.top _, s.nx, s.ro, s.lo, s.keep, fun e he' hwe x hx => ?_, Nat.le_succ_of_le s.kn, fun j hj => (Sg.upd_ne (Nat.ne_of_lt (Nat.lt_of_lt_of_le hj s.kn)) _).trans (s.pin j hj)⟩
      · have hw' : e'.w = true := hw'.resolve_left (by simp)
        refine s.ok.dis _ he e' he' (fun ej => ?_) (.inr hw') x ((hfo x).2 (h5 x hx)) ((hff e' he' x).1 hx')
        have := s.ok.same he he' ej
        rw [← this] at hw'; cases hw'
      · rcases List.mem_cons.1 he' with e1 | e1
        · rw [e1] at hwe; cases hwe
        · exact s.own e e1 hwe x ((hff e e1 x).1 hx)
    have g2 : RG C.dr c C.ops.length (i + 1) (σ.upd nb ro) (⟨nb, false, none, .raw cs⟩ :: bl) G.h h := by
      refine ⟨g.lo, g.hi, fun e he' x hx k hk hkl => ?_, fun hd e he' => ?_⟩
      · rcases List.mem_cons.1 he' with e1 | e1
        · rw [e1] at hx; exact g.fresh _ he x ((hfo x).2 (h5 x hx)) k (by omega) hkl
        · exact g.fresh e e1 x ((hff e e1 x).1 hx) k (by omega) hkl
      · rcases List.mem_cons.1 he' with e1 | e1
        · subst e1; intro x hx; exact g.born hd _ he x ((hfo x).2 (h5 x hx))
        · have := g.born hd e e1
          cases hb' : e.born with
          | none => rw [hb'] at this; intro x hx; exact this x ((hff e e1 x).1 hx)
          | some k =>
            rw [hb'] at this
            intro b' hb''
            refine this b' ?_
            unfold Sg.upd at hb''
            rw [if_neg (Nat.ne_of_lt (hlt e e1))] at hb''
            exact hb''
    obtain ⟨f1, hp, hs⟩ := hr G hG Q hK c _ f h v' s2 h3 g2 dcr hlen
    have kp : Kept [nb] σ (σ.upd nb ro) bl (⟨nb, false, none, .raw cs⟩ :: bl) h h := ⟨fun e he _ => List.mem_cons_of_mem _ he, fun e he hm => by
      rcases List.mem_cons.1 he with e1 | e1
      · subst e1; simp [memN] at hm
      · exact e1, fun e he _ x => ⟨hff e he x, fun _ => rfl⟩⟩
    refine SeqD.load (l := l') hw ho hev hty (by rw [hsz]; exact h1) (by rw [hag]; exact h2) hp (fun hd => born_ok hd hld g he rfl rfl hb ((hfo b).2 hfb)) (fun hd SS h4 => same_before hd hld h4 he rfl ((hfo b).2 hfb) h1) (fun hd SP SS h6 h7 => ⟨?_, ?_⟩) hs
    · show LR _ (bif C.dr then (i, j, false) :: sp else sp) _
      rw [hd, cond_true]
      refine ⟨⟨rfl, fun _ => ⟨_, List.mem_cons_of_mem _ he, rfl, (hff _ he b).2 ((hfo b).2 hfb), by show h.load b off l'.length = some l'; rw [load_len h1]; exact h1⟩⟩, tk_new hlt kp h6⟩
    · show LR _ ss' SS
      rw [hss hd]
      exact kp.ts h7
  rcases hrow with ⟨bi, h1, h2, h3⟩ | ⟨h1, h2, h3⟩
  · refine main (some bi) _ _ h1 rfl ⟨_, rfl, .inl ⟨bi, Sg.upd_at .., rfl⟩⟩ ?_ fun x hx => ?_
    · unfold Ent; rw [show (⟨nb, false, none, .raw cs⟩ : Bk).j = nb from rfl, Sg.upd_at]; exact h2
    · unfold Foot at hx; rw [show (⟨nb, false, none, .raw cs⟩ : Bk).j = nb from rfl, Sg.upd_at] at hx
      have hx : x = bi := hx
      rw [hx]; exact h3
  · refine main none _ _ h3 rfl ⟨_, rfl, .inr ⟨Sg.upd_at .., h1, rfl⟩⟩ ?_ fun x hx => ?_
    · unfold Ent; rw [show (⟨nb, false, none, .raw cs⟩ : Bk).j = nb from rfl, Sg.upd_at]; rw [h2]
    · unfold Foot at hx; rw [show (⟨nb, false, none, .raw cs⟩ : Bk).j = nb from rfl, Sg.upd_at] at hx; exact hx.elim

theorem Run.opStore {t : TypeId} {a x : Operand} {j off : Nat} {xs : List Sc} {bl1 bl2 : BL} {born : Option Nat} {c0 cl : Cl} {sp' : Tk} {ss' : Ts} (ho : o.op = .store t a x) (hpa : P.ev p a = .one (.ptr (some (j, off)))) (hty : (X.T t).ty.isNone = false) (hxs : (P.ev p x).cells = some xs) (hlen' : xs.length = (X.T t).size)
    (hbl : bl = bl1 ++ ⟨j, true, born, c0⟩ :: bl2) (hc : (∃ l l2, c0 = .ex l ∧ cl = .ex l2 ∧ off + xs.length ≤ l.length ∧ l2 = l.take off ++ xs ++ l.drop (off + xs.length)) ∨ (∃ l l2, c0 = .raw l ∧ cl = .raw l2 ∧ allB flatSc xs = true ∧ off + xs.length ≤ l.length ∧ l2 = l.take off ++ xs ++ l.drop (off + xs.length)))
    (hwr : wrOK C i [j] sp = true) (htr : C.dr = true → sp' = sp.map (staleT [j]) ∧ ss' = (i, [j]) :: ss.map (modsT [j]))
    (hr : Run X nt k (.put C o.dst undefA rest i) S ⟨p, dc, bl1 ++ ⟨j, true, born, cl⟩ :: bl2, nb, sp', ss'⟩ K) : Run X nt k (.op C o rest i) S ⟨p, dc, bl, nb, sp, ss⟩ K := by
  subst hbl
  intro G hG Q hK c σ f h s g dcr hlen hw
  have s : SI G σ p (bl1 ++ ⟨j, true, born, c0⟩ :: bl2) nb f h := s
  have g : RG C.dr c C.ops.length i σ (bl1 ++ ⟨j, true, born, c0⟩ :: bl2) G.h h := g
  have hx := s.ag.ev a
  rw [hpa] at hx
  obtain ⟨s', hev, a', rfl, b, hb, rfl⟩ := hx
  obtain ⟨ys, hys, ry⟩ := cells_rel2 hxs (s.ag.ev x)
  have hin : (⟨j, true, born, c0⟩ : Bk) ∈ bl1 ++ ⟨j, true, born, c0⟩ :: bl2 := by simp
  have hent := s.ok.ent _ hin
  have hnr : ∀ r, c0 ≠ .res r := fun r e => by rcases hc with ⟨l, l2, h1, _⟩ | ⟨l, l2, h1, _⟩ <;> rw [h1] at e <;> cases e
  have hfb : Foot σ h ⟨j, true, born, c0⟩ b := by
    unfold Foot
    rw [show (⟨j, true, born, c0⟩ : Bk).j = j from rfl, hb]
    rcases hc with ⟨l, l2, rfl, _⟩ | ⟨l, l2, rfl, _⟩ <;> rfl
  have hro : h.ro ≤ b := s.ok.wr _ hin rfl b hfb
  obtain ⟨l', l2', hget, hle, hcl, hst⟩ : ∃ l' l2', h.get b = some l' ∧ off + ys.length ≤ l'.length ∧ ((∃ l, cl = .ex l ∧ LR (RSc σ) l l2') ∨ cl = .raw l2') ∧ l2' = l'.take off ++ ys ++ l'.drop (off + ys.length) := by
    unfold Ent at hent
    rw [show (⟨j, true, born, c0⟩ : Bk).j = j from rfl, hb] at hent
    rcases hc with ⟨l, l2, rfl, rfl, h1, h2⟩ | ⟨l, l2, rfl, rfl, hf, h1, h2⟩
    · obtain ⟨l', h3, h4⟩ := hent
      refine ⟨l', _, h3, by rw [← ry.length, ← h4.length]; exact h1, .inl ⟨_, rfl, ?_⟩, rfl⟩
      rw [h2, ← ry.length]
      exact ((h4.take off).append ry).append (h4.drop _)
    · have e : ys = xs := LR.flat hf ry
      subst e
      exact ⟨l, l2, hent, h1, .inr rfl, h2⟩
  obtain ⟨s2, g2, k1, k2⟩ := s.upd g hb hnr hcl
  have hkp : Kept [j] σ σ (bl1 ++ ⟨j, true, born, c0⟩ :: bl2) (bl1 ++ ⟨j, true, born, cl⟩ :: bl2) h (h.put b l2') := by
    have ne : ∀ e : Bk, memN e.j [j] = false → e.j ≠ j := fun e he e1 => by rw [e1] at he; simp [memN] at he
    exact ⟨fun e he hm => k2 e he (ne e hm), fun e he hm => (k1 e he (ne e hm)).1, fun e he hm y => (k1 e (k2 e he (ne e hm)) (ne e hm)).2 y⟩
  obtain ⟨f1, hp, hs⟩ := hr G hG Q hK c σ f _ undefA s2 (RAV.of_flat rfl) g2.next dcr hlen
  have hstore : h.store b off ys = some (h.put b l2') := by
    rw [H.store_of hro hget hle, hst]
  refine SeqD.write hw (by rw [ho]; rfl) (by rw [ho]; rfl) ?_ hp (fun hd => wr_mask hd hwr) (fun hd SP h1 => hkp.loads hd hwr h1) (fun hd SP SS h1 h2 => ?_) hs
  · rw [ho]
    simp only [aop, hev, hty, Bool.false_eq_true, if_false, hys, Option.bind_some]
    rw [if_pos (by rw [← ry.length]; exact hlen'), hstore]; rfl
  · obtain ⟨e1, e2⟩ := htr hd
    show LR _ sp' SP ∧ LR _ ss' _
    rw [e1, e2]
    exact ⟨hkp.tk h1, hkp.now i, hkp.ts h2⟩

/-- A call of a function whose answers are known. -/
theorem Run.opE {f0 : Operand} {args : Array Operand} {ts : Array TypeId} {g : FuncId} {caps : List (Nat × Nat)} {as : List AV} {fE : List AV → Option AV} {v : AV} (ho : o.op = .call ⟨.value f0, args, ts⟩) (hpf : P.ev p f0 = .one (.fn g caps)) (has : as = args.toList.map (P.ev p) ++ caps.map fun a => .one (.ptr (some a)))
    (hE : X.E g = some fE) (hfl : allB AV.flat as = true) (hd0 : C.dr = true → noMask (C.bs.getD i 0) 0 C.ops = true ∧ isW X o.op = false) (hv : fE as = some v) (hvf : v.flat = true)
    (hr : Run X nt k (.put C o.dst v rest i) S ⟨p, dc, bl, nb, sp, ss⟩ K) : Run X nt k (.op C o rest i) S ⟨p, dc, bl, nb, sp, ss⟩ K := by
  intro G hG Q hK c σ f h s g' dcr hlen hw
  have s : SI G σ p bl nb f h := s
  have hx := s.ag.ev f0
  rw [hpf] at hx
  obtain ⟨s', hev, cs, rfl, rc⟩ := hx
  have hargs : LR (RAV σ) as (args.toList.map f.ev ++ cs.map fun a => .one (.ptr (some a))) := by
    rw [has]
    refine LR.append ?_ ?_
    · exact LR.self (fun x => s.ag.ev x) _
    · exact LR.map (R := RPt σ) (fun x y h => ⟨_, rfl, y, rfl, h⟩) rc
  have hflat : ∀ {l l' : List AV}, allB AV.flat l = true → LR (RAV σ) l l' → l' = l := by
    intro l
    induction l with
    | nil => intro l' _ r; cases l' with
      | nil => rfl
      | cons => exact r.elim
    | cons a l ih => intro l' hf r; cases l' with
      | nil => exact r.elim
      | cons a' l' =>
        simp only [allB, Bool.and_eq_true] at hf
        rw [RAV.flat hf.1 r.1, ih hf.2 r.2]
  have hcal : callee f.ev o.op = some (g, as) := by
    rw [ho]
    unfold callee
    dsimp only
    rw [hev]
    dsimp only
    rw [hflat hfl hargs]
  have hcall : ∀ h, CallsA X g as h v h := fun h => ⟨0, by
    unfold callA
    rw [hE]
    dsimp only
    rw [hv, Option.bind_some, if_pos hvf]⟩
  obtain ⟨f1, hp, hs⟩ := hr G hG Q hK c σ f h v s (RAV.of_flat hvf) g'.next dcr hlen
  have hcl : isCall o.op = true := by rw [ho]; rfl
  cases hd : C.dr with
  | true =>
    obtain ⟨hm, hW⟩ := hd0 hd
    exact SeqD.callD hd hw hcl hcal hW hm (hcall _) hvf hp hs
  | false =>
    refine SeqD.callW hw hcl hcal (hcall h) hp (fun h => ?_) (fun h => ?_) (fun h => ?_) (fun h => ?_) hs <;> rw [hd] at h <;> cases h

/-- A call of a function by what is known of it. -/
theorem Run.opCall {f0 : Operand} {args : Array Operand} {ts : Array TypeId} {g : FuncId} {caps : List (Nat × Nat)} {as : List AV} (ho : o.op = .call ⟨.value f0, args, ts⟩) (hpf : P.ev p f0 = .one (.fn g caps)) (has : as = args.toList.map (P.ev p) ++ caps.map fun a => .one (.ptr (some a)))
    (hr : CallH X nt k K g as ⟨C, o, rest, i, S⟩ ⟨p, dc, bl, nb, sp, ss⟩) : Run X nt k (.op C o rest i) S ⟨p, dc, bl, nb, sp, ss⟩ K := by
  intro G hG Q hK c σ f h s g' dcr hlen hw
  obtain ⟨A, V, B, nb', tl, args0, bl0, nb0, hct, htl, hra, hrb, hnd, hnd2, hr⟩ := hr
  have s : SI G σ p bl nb f h := s
  have g' : RG C.dr c C.ops.length i σ bl G.h h := g'
  have hrb : RvBL tl bl bl0 := hrb
  have hx := s.ag.ev f0
  rw [hpf] at hx
  obtain ⟨s', hev, cs, rfl, rc⟩ := hx
  have hargs : LR (RAV σ) as (args.toList.map f.ev ++ cs.map fun a => .one (.ptr (some a))) := by
    rw [has]
    refine LR.append ?_ ?_
    · exact LR.self (fun x => s.ag.ev x) _
    · exact LR.map (R := RPt σ) (fun x y h => ⟨_, rfl, y, rfl, h⟩) rc
  have hargs := RvArgs_ok hra hargs
  have hcal : callee f.ev o.op = some (g, args.toList.map f.ev ++ cs.map fun a => .one (.ptr (some a))) := by
    rw [ho]
    unfold callee
    dsimp only
    rw [hev]
  have hcl : isCall o.op = true := by rw [ho]; rfl
  obtain ⟨hbc, hold0⟩ := hrb.ok hnd hnd2 s.ok
  have htl := lenK_ok htl
  have htop0 : ∀ j, nb0 ≤ j → reσ tl σ j = none := fun j hj => by
    unfold reσ
    rw [nth_eq, List.getElem?_eq_none (by omega)]
  have hlo := s.lo
  have hnx := s.nx
  have hro := s.ro
  have hgl := g'.lo
  have hgh := g'.hi
  dsimp only at hr
  cases hm : (C.dr && !isW X o.op) with
  | true =>
    rw [hm] at hr
    obtain ⟨hmask, hnw, hr⟩ := hr
    rw [Bool.and_eq_true, Bool.not_eq_true'] at hm
    have hb2 : BlOK (reσ tl σ) bl0 { h with ro := h.nx } := by
      have ff : ∀ e ∈ bl0, Ent (reσ tl σ) { h with ro := h.nx } e ∧ ∀ i, Foot (reσ tl σ) { h with ro := h.nx } e i ↔ Foot (reσ tl σ) h e i := fun e he => (hbc.ent e he).frame fun _ _ => rfl
      exact ⟨fun e he => (ff e he).1, fun e he i hi => hbc.low e he i (((ff e he).2 i).1 hi), (fun e he hw => by rw [hnw e he] at hw; cases hw), hbc.uniq, fun e he e' he' hne hw i hi hi' => hbc.dis e he e' he' hne hw i (((ff e he).2 i).1 hi) (((ff e' he').2 i).1 hi')⟩
    obtain ⟨v', h2, hca, a, σ', _, _, _, _, hv, _⟩ := hct _ _ _ hargs hb2 (Nat.le_refl _) htop0
    obtain ⟨hf, hrun⟩ := hr a
    have e := RAV.flat hf hv
    subst e
    obtain ⟨f1, hp, hs⟩ := hrun G hG Q hK c σ f h _ s (RAV.of_flat hf) g'.next dcr hlen
    exact SeqD.callD hm.1 hw hcl hcal hm.2 hmask hca hf hp hs
  | false =>
    rw [hm] at hr
    obtain ⟨v', h', hca, a, σc, hsame0, htopc, hnx', hro', hv, hbB, hkeep, hfB, hjB⟩ := hct _ _ _ hargs hbc (by omega) htop0
    obtain ⟨v2, st', hst, hrun⟩ := hr a
    unfold callSt at hst
    dsimp only at hst
    obtain ⟨mods, hst, hmo⟩ := wFrom_ok hst
    have hold : C.dr = true → oldAll mods bl = true := fun hd => by
      rw [hd] at hst
      cases ho : oldAll mods bl with
      | true => rfl
      | false => rw [ho] at hst; cases hst
    have hst2 : ∃ bl1, bl1.Sublist bl ∧ (∀ e ∈ bl, e.j ∉ mods → e ∈ bl1) ∧ (∀ e ∈ bl1, e.j ∉ mods) ∧ (fwdBK (fwdJ tl nb0 nb) (B a) fun Ba' => appK Ba' bl1 fun bl' => bif nodupB (bl'.map Bk.j) then
      jsK Ba' fun js => appK mods js fun ms => wroteK C i ms sp ss fun sp' ss' => fwdAVK (fwdJ tl nb0 nb) (V a) fun v' => some (v', (⟨p, dc, bl', nb + (nb' a - nb0), sp', ss'⟩ : St)) else none) = some (v2, st') := by
      cases hb : (C.dr && !oldAll mods bl) with
      | true => rw [hb] at hst; cases hst
      | false =>
        rw [hb, cond_false] at hst
        obtain ⟨bl1, hst, hsl, hcomp, hdel⟩ := delsK_ok hst
        exact ⟨bl1, hsl, hcomp, hdel s.ok.uniq, hst⟩
    obtain ⟨bl1, hsl, hcomp, hdel, hst⟩ := hst2
    have hlt : ∀ e ∈ bl, e.j < nb := fun e he => (s.ok.ent e he).ne_top s.top
    -- the places behind the call
    let τ : Sg := fun j => if j < nb then σ j else σc (nb0 + (j - nb))
    have hτlt : ∀ j, j < nb → τ j = σ j := fun j hj => if_pos hj
    have hle : σ.le τ := fun j r hj => by
      have : j < nb := Nat.lt_of_not_le fun h => by rw [s.top j h] at hj; cases hj
      rw [hτlt j this]; exact hj
    have htop : ∀ j, nb + (nb' a - nb0) ≤ j → τ j = none := fun j hj => by
      show (if j < nb then σ j else σc (nb0 + (j - nb))) = none
      rw [if_neg (by omega)]
      exact htopc _ (by omega)
    have hfj : ∀ j j', fwdJ tl nb0 nb j = some j' → τ j' = σc j := fun j j' e => by
      unfold fwdJ at e
      cases hb : Nat.blt j nb0 with
      | true =>
        rw [hb, cond_true] at e
        have hjn : j < nb0 := Nat.le_of_ble_eq_true hb
        split at e
        · rename_i j1 e1
          cases hb1 : Nat.blt j1 nb with
          | false => rw [hb1] at e; cases e
          | true =>
            rw [hb1, cond_true] at e
            injection e with e
            subst e
            rw [hsame0 j hjn]
            unfold reσ
            rw [e1]
            exact hτlt _ (Nat.le_of_ble_eq_true hb1)
        · cases e
      | false =>
        rw [hb, cond_false] at e
        have hjn : ¬ j < nb0 := fun h => by
          have : Nat.blt j nb0 = true := Nat.ble_eq_true_of_le h
          rw [this] at hb; cases hb
        injection e with e
        subst e
        show (if nb + (j - nb0) < nb then σ (nb + (j - nb0)) else σc (nb0 + (nb + (j - nb0) - nb))) = σc j
        rw [if_neg (by omega)]
        congr 1; omega
    obtain ⟨Ba', hst, hBa⟩ := fwdB_ok hfj h' hst
    have hst := appK_ok hst
    have hnodup : nodupB ((Ba' ++ bl1).map Bk.j) = true := by
      cases hb : nodupB ((Ba' ++ bl1).map Bk.j) with
      | true => rfl
      | false => rw [hb] at hst; cases hst
    rw [hnodup, cond_true] at hst
    have hst := appK_ok (jsK_ok hst)
    obtain ⟨hwr, sp', ss', hst, htr⟩ := wroteK_ok hst
    obtain ⟨v3, hst, hv3⟩ := fwdAV_ok hfj hst
    injection hst with hst
    injection hst with e1 e2
    subst e1; subst e2
    have hv := hv3 _ hv
    -- the entries of the call
    have bmem : ∀ e' ∈ Ba', ∃ e ∈ B a, FwdE (fwdJ tl nb0 nb) σc τ h' e e' := by
      have all : ∀ {l l' : BL}, LR (FwdE (fwdJ tl nb0 nb) σc τ h') l l' → ∀ e' ∈ l', ∃ e ∈ l, FwdE (fwdJ tl nb0 nb) σc τ h' e e' := by
        intro l
        induction l with
        | nil => intro l' r e' he'; cases l' with
          | nil => cases he'
          | cons => exact r.elim
        | cons b l ih => intro l' r e' he'; cases l' with
          | nil => cases he'
          | cons b' l' =>
            rcases List.mem_cons.1 he' with e1 | e1
            · exact ⟨b, List.mem_cons_self, e1 ▸ r.1⟩
            · obtain ⟨e, h1, h2⟩ := ih r.2 e' e1; exact ⟨e, List.mem_cons_of_mem _ h1, h2⟩
      exact all hBa
    have hWfoot : ∀ x, WrB (reσ tl σ) bl0 h x → ∃ e ∈ bl, e.w = true ∧ Foot σ h e x ∧ e.j ∈ mods := fun x ⟨e, he, hw, hf⟩ => by
      obtain ⟨e', h1, ⟨j', h2, h3⟩, h4, h5⟩ := hold0 e he x hf
      exact ⟨e', h1, h4 hw, h5, by rw [h3]; exact hmo e he hw j' h2⟩
    have notW : ∀ e ∈ bl1, ∀ x, Foot σ h e x → ¬ WrB (reσ tl σ) bl0 h x := fun e he x hx hW => by
      obtain ⟨e', h1, h2, h3, h4⟩ := hWfoot x hW
      exact s.ok.dis e (hsl.subset he) e' h1 (fun ej => hdel e he (by rw [ej]; exact h4)) (.inr h2) x hx h3
    have hsame : ∀ e ∈ bl1, ∀ x, Foot σ h e x → h'.get x = h.get x := fun e he x hx => hkeep x (s.ok.low e (hsl.subset he) x hx) (notW e he x hx)
    obtain ⟨hok1, hff⟩ := (s.ok.sub hsl).frame hle hsame hnx' hro'
    have hfB' : ∀ e' ∈ Ba', ∀ x, Foot τ h' e' x → h.nx ≤ x ∨ WrB (reσ tl σ) bl0 h x := fun e' he' x hx => by
      obtain ⟨e, h1, _, _, _, _, h2⟩ := bmem e' he'
      exact hfB e h1 x ((h2 x).1 hx)
    have hdisj : ∀ e ∈ Ba', ∀ e' ∈ bl1, ∀ x, Foot τ h' e x → ¬ Foot τ h' e' x := fun e he e' he' x hx hx' => by
      rw [hff e' he'] at hx'
      rcases hfB' e he x hx with h1 | h1
      · have := s.ok.low e' (hsl.subset he') x hx'; omega
      · exact notW e' he' x hx' h1
    have fwdne : ∀ e1 e2 e1' e2', FwdE (fwdJ tl nb0 nb) σc τ h' e1 e1' → FwdE (fwdJ tl nb0 nb) σc τ h' e2 e2' → e1'.j ≠ e2'.j → e1.j ≠ e2.j := fun e1 e2 e1' e2' a1 a2 hne ej => by
      refine hne ?_
      have b1 := a1.1
      have b2 := a2.1
      rw [ej, b2] at b1
      injection b1 with b1
      exact b1.symm
    have s2 : SI G τ p (Ba' ++ bl1) (nb + (nb' a - nb0)) f h' := by
      refine ⟨s.ag.mono hle, ⟨fun e he => ?_, fun e he x hx => ?_, fun e he hw x hx => ?_, nodupB_ok hnodup, fun e he e' he' hne hw x hx hx' => ?_⟩, htop, by omega, by rw [hro', s.ro], s.lo, fun x hx hmd => ?_, fun e he hw x hx => ?_, Nat.le_trans s.kn (Nat.le_add_right _ _), fun j hj => (hτlt j (Nat.lt_of_lt_of_le hj s.kn)).trans (s.pin j hj)⟩
      · rcases List.mem_append.1 he with h1 | h1
        · obtain ⟨e0, h2, _, _, _, h3, _⟩ := bmem e h1; exact h3 (hbB.ent e0 h2)
        · exact hok1.ent e h1
      · rcases List.mem_append.1 he with h1 | h1
        · obtain ⟨e0, h2, _, _, _, _, h3⟩ := bmem e h1; exact hbB.low e0 h2 x ((h3 x).1 hx)
        · exact hok1.low e h1 x hx
      · rcases List.mem_append.1 he with h1 | h1
        · obtain ⟨e0, h2, _, h4, _, _, h3⟩ := bmem e h1; exact hbB.wr e0 h2 (by rw [← h4]; exact hw) x ((h3 x).1 hx)
        · exact hok1.wr e h1 hw x hx
      · rcases List.mem_append.1 he with h1 | h1
        · rcases List.mem_append.1 he' with h2 | h2
          · obtain ⟨e0, g1, g2⟩ := bmem e h1
            obtain ⟨e0', g1', g2'⟩ := bmem e' h2
            refine hbB.dis e0 g1 e0' g1' (fwdne _ _ _ _ g2 g2' hne) (hw.imp (fun h => by rw [← g2.2.1]; exact h) (fun h => by rw [← g2'.2.1]; exact h)) x ((g2.2.2.2.2 x).1 hx) ((g2'.2.2.2.2 x).1 hx')
          · exact hdisj e h1 e' h2 x hx hx'
        · rcases List.mem_append.1 he' with h2 | h2
          · exact hdisj e' h2 e h1 x hx' hx
          · exact hok1.dis e h1 e' h2 hne hw x hx hx'
      · rw [← s.keep x hx hmd]
        refine hkeep x (by omega) fun hW => ?_
        obtain ⟨e, h1, h2, h3, _⟩ := hWfoot x hW
        rcases s.own e h1 h2 x h3 with h4 | h4
        · omega
        · exact hmd h4
      · rcases List.mem_append.1 he with h1 | h1
        · rcases hfB' e h1 x hx with h2 | h2
          · exact .inl (by omega)
          · obtain ⟨e', h3, h4, h5, _⟩ := hWfoot x h2
            exact s.own e' h3 h4 x h5
        · exact s.own e (hsl.subset h1) hw x ((hff e h1 x).1 hx)
    have oldOf : ∀ (bl : BL), oldAll mods bl = true → ∀ e ∈ bl, e.j ∈ mods → e.born = none := by
      intro bl
      induction bl with
      | nil => intro _ e he; cases he
      | cons b l ih =>
        obtain ⟨j, w, bo, cc⟩ := b
        intro ho e he hj
        unfold oldAll at ho
        rw [Bool.and_eq_true, Bool.or_eq_true, Bool.not_eq_true'] at ho
        rcases List.mem_cons.1 he with e1 | e1
        · subst e1
          rcases ho.1 with h1 | h1
          · rw [memN_iff.2 hj] at h1; cases h1
          · cases bo with
            | none => rfl
            | some k => cases h1
        · exact ih ho.2 e e1 hj
    have g2 : RG C.dr c C.ops.length (i + 1) τ (Ba' ++ bl1) G.h h' := by
      refine ⟨g'.lo, by omega, fun e he x hx k hk hkl => ?_, fun hd e he => ?_⟩
      · rcases List.mem_append.1 he with h1 | h1
        · rcases hfB' e h1 x hx with h2 | h2
          · omega
          · obtain ⟨e', h3, h4, h5, _⟩ := hWfoot x h2
            exact g'.fresh e' h3 x h5 k (by omega) hkl
        · exact g'.fresh e (hsl.subset h1) x ((hff e h1 x).1 hx) k (by omega) hkl
      · rcases List.mem_append.1 he with h1 | h1
        · obtain ⟨e0, k1, _, _, k2, _, _⟩ := bmem e h1
          rw [k2, hjB e0 k1]
          intro x hx
          rcases hfB' e h1 x hx with h2 | h2
          · exact .inr (by omega)
          · obtain ⟨e', h3, h4, h5, h6⟩ := hWfoot x h2
            have := g'.born hd e' h3
            rw [oldOf bl (hold hd) e' h3 h6] at this
            exact this x h5
        · have := g'.born hd e (hsl.subset h1)
          cases hb : e.born with
          | none => rw [hb] at this; intro x hx; exact this x ((hff e h1 x).1 hx)
          | some k =>
            rw [hb] at this
            intro b hb'
            obtain ⟨r, hr'⟩ := (s.ok.ent e (hsl.subset h1)).has
            have h3 := hle _ _ hr'
            rw [h3] at hb'
            injection hb' with hb'
            subst hb'
            exact this b hr'
    obtain ⟨f1, hp, hs⟩ := hrun G hG Q hK c τ f h' v' s2 hv g2 dcr hlen
    have kp : Kept (mods ++ Ba'.map Bk.j) σ τ bl (Ba' ++ bl1) h h' := by
      have nm : ∀ e : Bk, memN e.j (mods ++ Ba'.map Bk.j) = false → e.j ∉ mods ∧ e.j ∉ Ba'.map Bk.j := fun e he => by
        rw [memN_append, Bool.or_eq_false_iff] at he
        exact ⟨memN_false he.1, memN_false he.2⟩
      refine ⟨fun e he hm => List.mem_append_right _ (hcomp e he (nm e hm).1), fun e he hm => ?_, fun e he hm x => ⟨hff e (hcomp e he (nm e hm).1) x, hsame e (hcomp e he (nm e hm).1) x⟩⟩
      rcases List.mem_append.1 he with h1 | h1
      · exact absurd (List.mem_map_of_mem h1) (nm e hm).2
      · exact hsl.subset h1
    refine SeqD.callW hw hcl hcal hca hp (fun hd => ?_) (fun hd => wr_mask hd hwr) (fun hd SP h1 => kp.loads hd hwr h1) (fun hd SP SS h1 h2 => ?_) hs
    · rw [hd, Bool.true_and, Bool.not_eq_false'] at hm; exact hm
    · obtain ⟨e1, e2⟩ := htr hd
      show LR _ sp' SP ∧ LR _ ss' _
      rw [e1, e2]
      exact ⟨kp.tk h1, kp.now i, kp.ts h2⟩

/-! ### append -/
theorem Src.ok {size : Nat} {h : H} {σ : Sg} {a : Option (Nat × Nat)} {n sz : Nat} {full : Bool} {xs : List Sc} (hok : BlOK σ bl h) (hs : Src size bl a n sz xs) {v' : AV} (hr : RAV σ (.one (.sl a n full sz)) v') :
    (n = 0 ∧ xs = [] ∧ ∃ f' z', v' = .one (.sl none 0 f' z')) ∨ (∃ j o b e, a = some (j, o) ∧ σ j = some (some b) ∧ sz = size ∧ v' = .one (.sl (some (b, o)) n full sz) ∧ h.load b o (n * size) = some xs ∧ e ∈ bl ∧ e.j = j ∧ (∀ s, e.c ≠ .res s)) := by
  cases a with
  | none =>
    obtain ⟨rfl, rfl⟩ := hs
    obtain ⟨s', rfl, r⟩ := hr
    have r : s' = _ := r
    exact .inl ⟨rfl, rfl, _, _, by rw [r]⟩
  | some a =>
    obtain ⟨j, o⟩ := a
    obtain ⟨rfl, w, c, hc, hx⟩ := hs
    obtain ⟨e, he, hj, _, hec⟩ := clOf_ok hc
    obtain ⟨s', rfl, r⟩ := hr
    have hent := hok.ent e he
    rcases r with ⟨b, hb, rfl⟩ | ⟨hb, rfl, rfl⟩
    · refine .inr ⟨j, o, b, e, rfl, hb, rfl, rfl, ?_, he, hj, fun s es => ?_⟩
      · unfold Ent at hent
        rw [hj, hb, hec] at hent
        cases c with
        | raw l =>
          obtain ⟨h1, rfl⟩ := hx
          have hent : h.get b = some l := hent
          rw [H.load_of hent h1]
        | ex l =>
          obtain ⟨hf, h1, rfl⟩ := hx
          obtain ⟨l', h2, h3⟩ := hent
          rw [LR.flat hf h3] at h2
          rw [H.load_of h2 h1]
        | res s => exact hx.elim
      · rw [hec] at es; subst es; exact hx
    · unfold Ent at hent
      rw [hj, hb] at hent
      have hent : e.c = .raw [] := hent
      rw [hec] at hent
      subst hent
      obtain ⟨h1, rfl⟩ := hx
      exact .inl ⟨rfl, by simp, _, _, rfl⟩

theorem lenCells_of {h : H} {size n sz : Nat} {full : Bool} {b o : Nat} {xs : List Sc} (hs : sz = size) (hl : h.load b o (n * size) = some xs) : lenCells h size (.one (.sl (some (b, o)) n full sz)) = some (n, xs) := by
  subst hs
  simp only [lenCells, if_true, hl, Option.map_some]

/-- A block is gone. -/
theorem SI.kill {G : Gh} {σ : Sg} {f : FF} {h : H} (s : SI G σ p bl nb f h) {dr : Bool} {c len : Nat} (g : RG dr c len i σ bl G.h h) {e : Bk} (he : e ∈ bl) (hw : e.w = true) {b : Nat} (hb : σ e.j = some (some b)) (hnr : ∀ s, e.c ≠ .res s) {bl1 : BL} (hs : bl1.Sublist bl) (hne : ∀ e' ∈ bl1, e'.j ≠ e.j) :
    SI G σ p bl1 nb f (h.kill b) ∧ RG dr c len i σ bl1 G.h (h.kill b) ∧ h.ro ≤ b ∧ ∀ e' ∈ bl1, ∀ x, (Foot σ (h.kill b) e' x ↔ Foot σ h e' x) ∧ (Foot σ h e' x → (h.kill b).get x = h.get x) := by
  have hfb : Foot σ h e b := by
    unfold Foot
    rw [hb]
    cases hc : e.c with
    | res r => exact absurd hc (hnr r)
    | _ => rfl
  have hget : ∀ e' ∈ bl1, ∀ x, Foot σ h e' x → (h.kill b).get x = h.get x := fun e' he' x hx => by
    rw [H.get_kill, if_neg fun ex => ?_]
    exact s.ok.dis e' (hs.subset he') e he (hne e' he') (.inr hw) x hx (ex ▸ hfb)
  obtain ⟨hok, hff⟩ := (s.ok.sub hs).frame (Sg.le.refl σ) hget (Nat.le_refl _) (h' := h.kill b) rfl
  refine ⟨⟨s.ag, hok, s.top, s.nx, s.ro, s.lo, fun x hx hmd => ?_, fun e' he' hw' x hx => s.own e' (hs.subset he') hw' x ((hff e' he' x).1 hx), s.kn, s.pin⟩, ⟨g.lo, g.hi, fun e' he' x hx => g.fresh e' (hs.subset he') x ((hff e' he' x).1 hx), fun hd e' he' => ?_⟩, s.ok.wr e he hw b hfb, fun e' he' x => ⟨hff e' he' x, hget e' he' x⟩⟩
  · rw [H.get_kill, if_neg fun ex => ?_]
    · exact s.keep x hx hmd
    · subst ex
      rcases s.own e he hw x hfb with h1 | h1
      · omega
      · exact hmd h1
  · have := g.born hd e' (hs.subset he')
    cases hb' : e'.born with
    | none => rw [hb'] at this; intro x hx; exact this x ((hff e' he' x).1 hx)
    | some k => rw [hb'] at this; exact this

theorem Run.opApp {s0 x0 : Operand} {args : Array Operand} {ts : Array TypeId} {t : TypeId} {e : TypeId} {a a' : Option (Nat × Nat)} {sn sz xn sz' : Nat} {full full' : Bool} (ho : o.op = .call ⟨.builtin .append, args, ts⟩) (hargs : args.toList = [s0, x0]) (hts : ts.toList = [t, t]) (hty : (X.T t).ty = .slice e)
    (hps : P.ev p s0 = .one (.sl a sn full sz)) (hpx : P.ev p x0 = .one (.sl a' xn full' sz')) (hr : AppH X nt k K e a sn full sz a' xn sz' ⟨C, o, rest, i, S⟩ ⟨p, dc, bl, nb, sp, ss⟩) : Run X nt k (.op C o rest i) S ⟨p, dc, bl, nb, sp, ss⟩ K := by
  intro G hG Q hK c σ f h s g dcr hlen hw
  have s : SI G σ p bl nb f h := s
  have g : RG C.dr c C.ops.length i σ bl G.h h := g
  obtain ⟨old, new, hso, hsn, hsz, hb1, hb2, hz, hpos⟩ := hr
  have hso : Src (X.T e).size bl a sn sz old := hso
  have hsn : Src (X.T e).size bl a' xn sz' new := hsn
  rw [Bool.and_eq_true] at hsz
  have hsz0 : 0 < (X.T e).size := by
    have := hsz.1
    unfold Nat.blt at this
    exact Nat.le_of_ble_eq_true this
  have hzl := lenK_ok hsz.2
  have hvs := s.ag.ev s0
  rw [hps] at hvs
  have hvx := s.ag.ev x0
  rw [hpx] at hvx
  have hcl : isCall o.op = false := by rw [ho]; rfl
  have hW : isW X o.op = true := by rw [ho]; rfl
  have hop : ∀ h id, aop X f.ev h id o.op = abuiltin X h id .append [t, t] [f.ev s0, f.ev x0] := fun h id => by
    rw [ho]
    simp only [aop, hargs, hts, List.map_cons, List.map_nil]
  -- what the second one holds
  have hlc : ∃ v, f.ev x0 = v ∧ lenCells h (X.T e).size v = some (xn, new) := by
    rcases Src.ok s.ok hsn hvx with ⟨rfl, rfl, f', z', e1⟩ | ⟨j, o', b, en, rfl, hb, rfl, e1, hl, _⟩
    · exact ⟨_, e1, rfl⟩
    · exact ⟨_, e1, lenCells_of rfl hl⟩
  obtain ⟨vx, hvx1, hlc⟩ := hlc
  have hcond : ¬ (t ≠ t ∨ (X.T e).size = 0 ∨ (X.T e).zero.length ≠ (X.T e).size) := by
    rintro (h1 | h1 | h1)
    · exact h1 rfl
    · omega
    · exact h1 hzl
  have hi : i < C.ops.length := by omega
  have hlt : ∀ e ∈ bl, e.j < nb := fun e he => (s.ok.ent e he).ne_top s.top
  by_cases hx0 : xn = 0
  · obtain ⟨st', hst, hrun⟩ := hz hx0
    unfold app0St at hst
    obtain ⟨hwr, sp', ss', hst, htr⟩ := wroteK_ok hst
    injection hst with hst
    subst hst
    subst hx0
    have hres : ∃ v', aop X f.ev h (c + i) o.op = some (v', h) ∧ RAV σ (.one (nilOr a sn full sz)) v' := by
      rcases Src.ok s.ok hso hvs with ⟨rfl, rfl, f', z', e1⟩ | ⟨j, o', b, en, rfl, hb, rfl, e1, hl, _⟩
      · have e1 : f.ev s0 = _ := e1
        refine ⟨.one (.sl none 0 true 0), ?_, ?_⟩
        · rw [hop, e1, hvx1]
          simp only [abuiltin, hty]
          rw [if_neg hcond, hlc]
          simp only [Option.bind_some, if_true]
        · obtain ⟨s', e2, r⟩ := hvs
          cases a with
          | none => exact ⟨_, rfl, rfl⟩
          | some a =>
            rcases r with ⟨b, hb, rfl⟩ | ⟨hb, _, rfl⟩
            · have e2 : f.ev s0 = _ := e2
              rw [e1] at e2; injection e2 with e2; injection e2 with e2; cases e2
            · exact ⟨_, rfl, .inr ⟨hb, rfl, rfl⟩⟩
      · have e1 : f.ev s0 = _ := e1
        refine ⟨.one (.sl (some (b, o')) sn full (X.T e).size), ?_, ⟨_, rfl, .inl ⟨b, hb, rfl⟩⟩⟩
        rw [hop, e1, hvx1]
        simp only [abuiltin, hty]
        rw [if_neg hcond, hlc]
        simp only [Option.bind_some, if_true]
    obtain ⟨v', ha, hv⟩ := hres
    obtain ⟨f1, hp, hs⟩ := hrun G hG Q hK c σ f h v' s hv g.next dcr hlen
    have kp := Kept.refl σ bl h
    refine SeqD.write hw hW hcl ha hp (fun hd => wr_mask hd hwr) (fun hd SP h1 => kp.loads hd hwr h1) (fun hd SP SS h1 h2 => ?_) hs
    obtain ⟨e1, e2⟩ := htr hd
    show LR _ sp' SP ∧ LR _ ss' _
    rw [e1, e2]
    exact ⟨kp.tk h1, kp.now i, kp.ts h2⟩
  · have hx0' : 0 < xn := by omega
    obtain ⟨hp1, hp2⟩ := hpos hx0'
    -- the common end
    have fin : ∀ (mods : List Nat) (bl1 : BL) (h1 : H) (st' : St), appSt C i (old ++ new) mods ⟨p, dc, bl, nb, sp, ss⟩ = some st' →
        Run X nt k (.put C o.dst (.one (.sl (some (nb, 0)) (sn + xn) false (X.T e).size)) rest i) S st' K →
        (∀ bl1 : BL, bl1.Sublist bl → (∀ e ∈ bl1, e.j ∉ mods) → SI G σ p bl1 nb f h1 ∧ RG C.dr c C.ops.length i σ bl1 G.h h1 ∧ ∀ e' ∈ bl1, ∀ x, (Foot σ h1 e' x ↔ Foot σ h e' x) ∧ (Foot σ h e' x → h1.get x = h.get x)) →
        aop X f.ev h (c + i) o.op = some (.one (.sl (some (c + i, 0)) (sn + xn) false (X.T e).size), h1.put (c + i) (old ++ new)) →
        SeqD X nt C c i (o :: rest) f h σ bl sp ss (stackQ X nt S Q .norm) := by
      intro mods _ h1 st' hst hrun hbl1 ha
      unfold appSt at hst
      dsimp only at hst
      obtain ⟨bl1, hst, hsl, hcomp, hdel⟩ := delsK_ok hst
      have hdel := hdel s.ok.uniq
      obtain ⟨hwr, sp', ss', hst, htr⟩ := wroteK_ok hst
      injection hst with hst
      subst hst
      obtain ⟨s1, g1, k1⟩ := hbl1 bl1 hsl hdel
      obtain ⟨s2, g2, hle, k2⟩ := s1.new g1 hi (cl := .raw (old ++ new)) (l' := old ++ new) (.inr rfl)
      obtain ⟨f1, hp, hs⟩ := hrun G hG Q hK c _ f _ (.one (.sl (some (c + i, 0)) (sn + xn) false (X.T e).size)) s2 ⟨_, rfl, .inl ⟨_, Sg.upd_at .., rfl⟩⟩ g2 dcr hlen
      have kp : Kept (nb :: mods) σ (σ.upd nb (some (c + i))) bl (⟨nb, true, some i, .raw (old ++ new)⟩ :: bl1) h (h1.put (c + i) (old ++ new)) := by
        have nm : ∀ e : Bk, memN e.j (nb :: mods) = false → e.j ≠ nb ∧ e.j ∉ mods := fun e he => by
          have := memN_false he
          simp only [List.mem_cons, not_or] at this
          exact this
        refine ⟨fun e he hm => List.mem_cons_of_mem _ (hcomp e he (nm e hm).2), fun e he hm => ?_, fun e he hm x => ?_⟩
        · rcases List.mem_cons.1 he with e1 | e1
          · subst e1; exact absurd rfl (nm _ hm).1
          · exact hsl.subset e1
        · have he1 := hcomp e he (nm e hm).2
          exact ⟨(k2 e he1 x).1.trans (k1 e he1 x).1, fun hx => ((k2 e he1 x).2 ((k1 e he1 x).1.2 hx)).trans ((k1 e he1 x).2 hx)⟩
      refine SeqD.write hw hW hcl ha hp (fun hd => wr_mask hd hwr) (fun hd SP h1 => kp.loads hd hwr h1) (fun hd SP SS h1 h2 => ?_) hs
      obtain ⟨e1, e2⟩ := htr hd
      show LR _ sp' SP ∧ LR _ ss' _
      rw [e1, e2]
      exact ⟨kp.tk h1, kp.now i, kp.ts h2⟩
    have plain : ∀ bl1 : BL, bl1.Sublist bl → SI G σ p bl1 nb f h ∧ RG C.dr c C.ops.length i σ bl1 G.h h ∧ ∀ e' ∈ bl1, ∀ x, (Foot σ h e' x ↔ Foot σ h e' x) ∧ (Foot σ h e' x → h.get x = h.get x) := fun bl1 hsl => ⟨s.sub hsl, g.sub hsl, fun _ _ _ => ⟨Iff.rfl, fun _ => rfl⟩⟩
    rcases Src.ok s.ok hso hvs with ⟨rfl, rfl, f', z', e1⟩ | ⟨j, o', b, en, rfl, hb, rfl, e1, hl, hen, hej, henr⟩
    · have e1 : f.ev s0 = _ := e1
      have ha : aop X f.ev h (c + i) o.op = some (.one (.sl (some (c + i, 0)) (0 + xn) false (X.T e).size), h.put (c + i) ([] ++ new)) := by
        rw [hop, e1, hvx1]
        simp only [abuiltin, hty]
        rw [if_neg hcond, hlc]
        simp only [Option.bind_some]
        rw [if_neg hx0, if_pos ⟨by rw [Nat.zero_add] at hb1; exact hb1, by omega⟩, Nat.zero_add]
        rfl
      cases a with
      | none =>
        obtain ⟨st', hst, hrun⟩ := hp1 (.inr rfl)
        exact fin [] bl h st' hst hrun (fun bl1 h1 _ => plain bl1 h1) ha
      | some a =>
        cases full with
        | true =>
          obtain ⟨st', hst, hrun⟩ := hp1 (.inl rfl)
          exact fin [] bl h st' hst hrun (fun bl1 h1 _ => plain bl1 h1) ha
        | false =>
          obtain ⟨_, _, _, st', hst, hrun⟩ := hp2 rfl a.1 a.2 rfl
          exact fin [a.1] bl h st' hst hrun (fun bl1 h1 _ => plain bl1 h1) ha
    · have e1 : f.ev s0 = _ := e1
      have hab : ∀ h2, (if full = true then some (AV.one (.sl (some (c + i, 0)) (sn + xn) false (X.T e).size), h.put (c + i) (old ++ new)) else if h.ro ≤ b then some (.one (.sl (some (c + i, 0)) (sn + xn) false (X.T e).size), (h.kill b).put (c + i) (old ++ new)) else none) = some (AV.one (.sl (some (c + i, 0)) (sn + xn) false (X.T e).size), h2) →
          aop X f.ev h (c + i) o.op = some (.one (.sl (some (c + i, 0)) (sn + xn) false (X.T e).size), h2) := fun h2 hh => by
        rw [hop, e1, hvx1]
        simp only [abuiltin, hty]
        rw [if_neg hcond, hlc]
        simp only [Option.bind_some]
        rw [if_neg hx0, if_pos ⟨trivial, hb2, hb1⟩, hl]
        simp only [Option.bind_some]
        exact hh
      cases full with
      | true =>
        obtain ⟨st', hst, hrun⟩ := hp1 (.inl rfl)
        exact fin [] bl h st' hst hrun (fun bl1 h1 _ => plain bl1 h1) (hab _ (by rw [if_pos rfl]))
      | false =>
        obtain ⟨cc, hcc, hccr, st', hst, hrun⟩ := hp2 rfl j o' rfl
        obtain ⟨e2, he2, hj2, hw2, hc2⟩ := clOf_ok (show clOf bl j = some (true, cc) from hcc)
        have hee : e2 = en := s.ok.same he2 hen (by rw [hj2, hej])
        subst hee
        have hro : h.ro ≤ b := (s.kill g he2 hw2 (by rw [hj2]; exact hb) (by rw [hc2]; exact hccr) (List.nil_sublist _) (fun _ h => by cases h)).2.2.1
        refine fin [j] bl (h.kill b) st' hst hrun (fun bl1 h1 h2 => ?_) (hab _ (by rw [if_neg (by simp), if_pos hro]))
        obtain ⟨a1, a2, _, a4⟩ := s.kill g he2 hw2 (by rw [hj2]; exact hb) (by rw [hc2]; exact hccr) h1 fun e' he' ej => h2 e' he' (by rw [ej, hj2]; exact List.mem_cons_self)
        exact ⟨a1, a2, a4⟩

end
end Go.AM
