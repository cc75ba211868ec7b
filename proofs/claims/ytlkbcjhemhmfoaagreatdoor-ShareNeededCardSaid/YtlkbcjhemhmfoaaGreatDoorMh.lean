/- More rules of a walk. -/
import Derived.Test.YtlkbcjhemhmfoaaGreatDoorMg
section
/- What a walk says of the machine: something that lies in several blocks is opened, and closed again. No program here. -/
set_option linter.unusedSimpArgs false
set_option linter.unusedVariables false
namespace Go.AM
open Go

/-! ### Steps -/
noncomputable section
def openSt (C : Cx) (i j off : Nat) (r' : Res) (cs : List Sc) (st : St) : Option St := match st with
  | ⟨p, dc, bl, nb, sp, ss⟩ => updK bl j (.res r') fun bl' => newK C nb ss fun ss' => some ⟨p, dc, ⟨nb, true, none, .raw cs⟩ :: bl', nb + 1, (bif C.dr then (i, (j, off, 1), false) :: sp else sp), ss'⟩
def closeSt (j q : Nat) (r2 : Res) (st : St) : Option St := match st with
  | ⟨p, _, bl, nb, _, _⟩ => updK bl j (.res r2) fun bl' => delK bl' q fun bl'' => some ⟨p, [], bl'', nb, [], []⟩
def loadSt (C : Cx) (i j off n : Nat) (st : St) : St := match st with
  | ⟨p, dc, bl, nb, sp, ss⟩ => ⟨p, dc, bl, nb, (bif C.dr then (i, (j, off, n), false) :: sp else sp), ss⟩
end
/-- No load out of a place has been done. -/
def noTk (j : Nat) : Tk → Bool
  | [] => true
  | (_, (j', _, _), s) :: l => (s || !Nat.beq j' j) && noTk j l

/-- A part taken out: where it lies. -/
def Opens (r r' : Res) (off m : Nat) (full : Bool) (sz : Nat) (cs : List Sc) : Prop := ∀ b h, r.R b h → ∃ bi, h.load b off 1 = some [.sl (some (bi, 0)) m full sz] ∧ h.get bi = some cs ∧ r'.R b h ∧ r'.F b h b ∧ r.F b h bi ∧ ∀ x, r'.F b h x → r.F b h x ∧ x ≠ bi
/-- A part put in. -/
def Closes (r r2 : Res) (off m : Nat) (full : Bool) (sz : Nat) (cs : List Sc) : Prop := ∀ b bi h, r.R b h → h.get bi = some cs → ¬ r.F b h bi → r.F b h b ∧ ∃ l, h.get b = some l ∧ off + 1 ≤ l.length ∧
  r2.R b (h.put b (l.take off ++ [.sl (some (bi, 0)) m full sz] ++ l.drop (off + 1))) ∧ r2.F b (h.put b (l.take off ++ [.sl (some (bi, 0)) m full sz] ++ l.drop (off + 1))) b ∧ ∀ x, r2.F b (h.put b (l.take off ++ [.sl (some (bi, 0)) m full sz] ++ l.drop (off + 1))) x → r.F b h x ∨ x = bi

section
variable {X : Env} {nt k : Nat} {C : Cx} {o : Oper} {rest : List Oper} {i : Nat} {S : List Kt} {K : KC}

theorem noTk_ok {j : Nat} : ∀ {sp : Tk}, noTk j sp = true → ∀ t ∈ sp, t.2.2 = true ∨ t.2.1.1 ≠ j
  | [], _, t, h => by cases h
  | (i, (j', _, _), s) :: l, h, t, ht => by
    unfold noTk at h
    rw [Bool.and_eq_true, Bool.or_eq_true] at h
    rcases List.mem_cons.1 ht with e | e
    · subst e
      rcases h.1 with h1 | h1
      · exact .inl h1
      · refine .inr fun e => ?_
        have e : j' = j := e
        rw [e] at h1
        simp at h1
    · exact noTk_ok h.2 t e
theorem LR.memImp {α β : Type} {R R' : α → β → Prop} : ∀ {xs : List α} {ys : List β}, LR R xs ys → (∀ x ∈ xs, ∀ y, R x y → R' x y) → LR R' xs ys
  | [], [], _, _ => trivial
  | x :: xs, y :: ys, h, hi => ⟨hi x List.mem_cons_self y h.1, LR.memImp h.2 fun a ha => hi a (List.mem_cons_of_mem _ ha)⟩
  | [], _ :: _, h, _ => h.elim
  | _ :: _, [], h, _ => h.elim

/-- A place's entry, told apart from the others. -/
theorem BlOK.apart {σ : Sg} {bl1 bl2 : BL} {e0 : Bk} {h : H} (x : BlOK σ (bl1 ++ e0 :: bl2) h) {e1 : Bk} (hj : e1.j = e0.j) : ∀ e ∈ bl1 ++ e1 :: bl2, e = e1 ∨ (e.j ≠ e0.j ∧ e ∈ bl1 ++ e0 :: bl2) := fun e he => by
  have hu := x.uniq
  simp only [List.map_append, List.map_cons, List.nodup_append, List.nodup_cons, List.mem_cons, List.mem_map] at hu
  rcases List.mem_append.1 he with he | he
  · exact .inr ⟨fun e' => hu.2.2 e.j ⟨e, he, rfl⟩ e0.j (.inl rfl) e', List.mem_append_left _ he⟩
  · rcases List.mem_cons.1 he with rfl | he
    · exact .inl rfl
    · exact .inr ⟨fun e' => hu.2.1.1 ⟨e, he, e'⟩, List.mem_append_right _ (List.mem_cons_of_mem _ he)⟩

theorem LR.map2 {α β α' : Type} {R : α → β → Prop} {R' : α' → β → Prop} {g : α → α'} (hi : ∀ x y, R x y → R' (g x) y) : ∀ {xs : List α} {ys : List β}, LR R xs ys → LR R' (xs.map g) ys
  | [], [], _ => trivial
  | _ :: _, _ :: _, h => ⟨hi _ _ h.1, LR.map2 hi h.2⟩
  | [], _ :: _, h => h.elim
  | _ :: _, [], h => h.elim

theorem Rn.openRow {t : TypeId} {a : Operand} {j off m sz : Nat} {full : Bool} {cs : List Sc} {r r' : Res} {st st' : St} (ho : o.op = .load t a) (hpa : P.ev st.p a = .one (.ptr (some (j, off)))) (hty : (X.T t).ty.isNone = false) (hsz : (X.T t).size = 1) (hag : (X.T t).isAgg = false)
    (hc : blk st.bl j (fun w b c => some (w, b, c)) = some (true, none, .res r)) (hld : ldOK C i none j st.ss = true) (hno : noTk j st.sp = true) (hop : Opens r r' off m full sz cs) (hst : openSt C i j off r' cs st = some st')
    (hr : Rn X nt k (.put C o.dst (.one (.sl (some (st.nb, 0)) m full sz)) rest i) S st' K) : Rn X nt k (.op C o rest i) S st K := by
  obtain ⟨hr⟩ := hr
  refine ⟨?_⟩
  obtain ⟨p, dc, bl, nb, sp, ss⟩ := st
  have hpa : P.ev p a = .one (.ptr (some (j, off))) := hpa
  have hc : blk bl j (fun w b c => some (w, b, c)) = some (true, none, .res r) := hc
  have hld : ldOK C i none j ss = true := hld
  have hno : noTk j sp = true := hno
  have hr : Run X nt k (.put C o.dst (.one (.sl (some (nb, 0)) m full sz)) rest i) S st' K := hr
  obtain ⟨w0, born0, c00, hin, hc⟩ := blk_ok hc
  injection hc with hc; injection hc with e1 hc; injection hc with e2 e3
  subst e1; subst e2; subst e3
  unfold openSt at hst
  obtain ⟨bl1, w1, b1, c1, bl2, hbl, hst⟩ := updK_ok hst
  obtain ⟨ss', hst, hss⟩ := newK_ok hst
  injection hst with hst
  subst hst
  intro G hG Q hK c σ f h s g dcr hlen hw
  have s : SI G σ p bl nb f h := s
  have g : RG C.dr c C.ops.length i σ bl G.h h := g
  have : (⟨j, w1, b1, c1⟩ : Bk) = ⟨j, true, none, .res r⟩ := s.ok.same (by rw [hbl]; simp) hin rfl
  injection this with _ e1 e2 e3
  subst e1; subst e2; subst e3
  subst hbl
  have hx := s.ag.ev a
  rw [hpa] at hx
  obtain ⟨s', hev, a', rfl, b, hb, rfl⟩ := hx
  have hR : r.R b h := by
    have := s.ok.ent _ hin
    unfold Ent at this; rw [show (⟨j, true, none, .res r⟩ : Bk).j = j from rfl, hb] at this; exact this
  have hfo : ∀ x, Foot σ h ⟨j, true, none, .res r⟩ x ↔ r.F b h x := fun x => by unfold Foot; rw [show (⟨j, true, none, .res r⟩ : Bk).j = j from rfl, hb]
  obtain ⟨bi, h1, h2, h3, h4, h5, h6⟩ := hop b h hR
  have hle : σ.le (σ.upd nb (some bi)) := Sg.upd_le (s.top nb (Nat.le_refl _)) _
  have hlt : ∀ e ∈ bl1 ++ ⟨j, true, none, .res r⟩ :: bl2, e.j < nb := fun e he => (s.ok.ent e he).ne_top s.top
  have hjn : j < nb := hlt _ hin
  have hnj : (σ.upd nb (some bi)) j = some (some b) := hle _ _ hb
  have ap := fun e he => s.ok.apart (e1 := ⟨j, true, none, .res r'⟩) rfl e he
  have hff : ∀ e ∈ bl1 ++ ⟨j, true, none, .res r⟩ :: bl2, ∀ x, Foot (σ.upd nb (some bi)) h e x ↔ Foot σ h e x := fun e he x => Foot.mono hle (s.ok.ent e he) x
  have hf' : ∀ x, Foot (σ.upd nb (some bi)) h ⟨j, true, none, .res r'⟩ x ↔ r'.F b h x := fun x => by unfold Foot; rw [show (⟨j, true, none, .res r'⟩ : Bk).j = j from rfl, hnj]
  have hfn : ∀ x, Foot (σ.upd nb (some bi)) h ⟨nb, true, none, .raw cs⟩ x ↔ x = bi := fun x => by unfold Foot; rw [show (⟨nb, true, none, .raw cs⟩ : Bk).j = nb from rfl, Sg.upd_at]
  -- each entry behind it lies within one ahead of it
  have old : ∀ e ∈ bl1 ++ ⟨j, true, none, .res r'⟩ :: bl2, ∃ e' ∈ bl1 ++ ⟨j, true, none, .res r⟩ :: bl2, e'.j = e.j ∧ e'.w = e.w ∧ e'.born = e.born ∧ ∀ x, Foot (σ.upd nb (some bi)) h e x → Foot σ h e' x ∧ (e.j = j → x ≠ bi) := fun e he => by
    rcases ap e he with rfl | ⟨hne, he⟩
    · exact ⟨_, hin, rfl, rfl, rfl, fun x hx => ⟨(hfo x).2 (h6 x ((hf' x).1 hx)).1, fun _ => (h6 x ((hf' x).1 hx)).2⟩⟩
    · exact ⟨e, he, rfl, rfl, rfl, fun x hx => ⟨(hff e he x).1 hx, fun e => absurd e hne⟩⟩
  have nbi : ∀ e ∈ bl1 ++ ⟨j, true, none, .res r'⟩ :: bl2, ¬ Foot (σ.upd nb (some bi)) h e bi := fun e he hx => by
    obtain ⟨e', k1, k2, _, _, k3⟩ := old e he
    obtain ⟨k4, k5⟩ := k3 bi hx
    by_cases hj : e.j = j
    · exact k5 hj rfl
    · exact s.ok.dis _ hin e' k1 (fun c => hj (by rw [← k2]; exact c.symm)) (.inl rfl) bi ((hfo bi).2 h5) k4
  have hok : BlOK (σ.upd nb (some bi)) (bl1 ++ ⟨j, true, none, .res r'⟩ :: bl2) h := by
    refine ⟨fun e he => ?_, fun e he x hx => ?_, fun e he hwe x hx => ?_, ?_, fun e he e2 he2 hne hww x hx hx2 => ?_⟩
    · rcases ap e he with rfl | ⟨hne, he⟩
      · unfold Ent; rw [show (⟨j, true, none, .res r'⟩ : Bk).j = j from rfl, hnj]; exact h3
      · exact (s.ok.ent e he).mono hle
    · obtain ⟨e', k1, _, _, _, k2⟩ := old e he; exact s.ok.low e' k1 x (k2 x hx).1
    · obtain ⟨e', k1, _, kw, _, k2⟩ := old e he; exact s.ok.wr e' k1 (by rw [kw]; exact hwe) x (k2 x hx).1
    · have := s.ok.uniq; simpa using this
    · obtain ⟨e', k1, kj, kw, _, k2⟩ := old e he
      obtain ⟨e2', l1, lj, lw, _, l2⟩ := old e2 he2
      exact s.ok.dis e' k1 e2' l1 (by rw [kj, lj]; exact hne) (by rw [kw, lw]; exact hww) x (k2 x hx).1 (l2 x hx2).1
  have hentn : Ent (σ.upd nb (some bi)) h ⟨nb, true, none, .raw cs⟩ := by unfold Ent; rw [show (⟨nb, true, none, .raw cs⟩ : Bk).j = nb from rfl, Sg.upd_at]; exact h2
  have hltn : ∀ e ∈ bl1 ++ ⟨j, true, none, .res r'⟩ :: bl2, e.j < nb := fun e he => by
    obtain ⟨e', k1, kj, _⟩ := old e he; rw [← kj]; exact hlt e' k1
  have s2 : SI G (σ.upd nb (some bi)) p (⟨nb, true, none, .raw cs⟩ :: (bl1 ++ ⟨j, true, none, .res r'⟩ :: bl2)) (nb + 1) f h := by
    refine ⟨s.ag.mono hle, hok.cons hentn (fun x hx => ?_) (fun _ x hx => ?_) (fun e' he' => Nat.ne_of_lt (hltn e' he')) (fun e' he' _ x hx hx' => ?_), Sg.upd_top s.top _, s.nx, s.ro, s.lo, s.keep, fun e he hwe x hx => ?_, Nat.le_succ_of_le s.kn, fun j hj => (Sg.upd_ne (Nat.ne_of_lt (Nat.lt_of_lt_of_le hj s.kn)) _).trans (s.pin j hj)⟩
    · rw [hfn] at hx; subst hx; exact s.ok.low _ hin _ ((hfo _).2 h5)
    · rw [hfn] at hx; subst hx; exact s.ok.wr _ hin rfl _ ((hfo _).2 h5)
    · rw [hfn] at hx; subst hx; exact nbi e' he' hx'
    · rcases List.mem_cons.1 he with e1 | e1
      · rw [e1, hfn] at hx; subst hx; exact s.own _ hin rfl _ ((hfo _).2 h5)
      · obtain ⟨e', k1, _, kw, _, k2⟩ := old e e1; exact s.own e' k1 (by rw [kw]; exact hwe) x (k2 x hx).1
  have g2 : RG C.dr c C.ops.length (i + 1) (σ.upd nb (some bi)) (⟨nb, true, none, .raw cs⟩ :: (bl1 ++ ⟨j, true, none, .res r'⟩ :: bl2)) G.h h := by
    refine ⟨g.lo, g.hi, fun e he x hx k hk hkl => ?_, fun hd e he => ?_⟩
    · rcases List.mem_cons.1 he with e1 | e1
      · rw [e1, hfn] at hx; subst hx; exact g.fresh _ hin _ ((hfo _).2 h5) k (by omega) hkl
      · obtain ⟨e', k1, _, _, _, k2⟩ := old e e1; exact g.fresh e' k1 x (k2 x hx).1 k (by omega) hkl
    · rcases List.mem_cons.1 he with e1 | e1
      · subst e1; intro x hx; rw [hfn] at hx; subst hx; exact g.born hd _ hin _ ((hfo _).2 h5)
      · obtain ⟨e', k1, kj, _, kb, k2⟩ := old e e1
        have := g.born hd e' k1
        rw [kb] at this
        cases hb' : e.born with
        | none => rw [hb'] at this; intro x hx; exact this x (k2 x hx).1
        | some q =>
          rw [hb'] at this
          intro b' hb''
          refine this b' ?_
          unfold Sg.upd at hb''
          rw [if_neg (Nat.ne_of_lt (hltn e e1))] at hb''
          rw [kj]; exact hb''
  obtain ⟨f1, hp, hs⟩ := hr G hG Q hK c _ f h (.one (.sl (some (bi, 0)) m full sz)) s2 ⟨_, rfl, .inl ⟨bi, Sg.upd_at .., rfl⟩⟩ g2 dcr hlen
  have hjin : (⟨j, true, none, .res r'⟩ : Bk) ∈ ⟨nb, true, none, .raw cs⟩ :: (bl1 ++ ⟨j, true, none, .res r'⟩ :: bl2) := by simp
  have back : ∀ e ∈ bl1 ++ ⟨j, true, none, .res r⟩ :: bl2, e.j ≠ j → e ∈ (⟨nb, true, none, .raw cs⟩ : Bk) :: (bl1 ++ ⟨j, true, none, .res r'⟩ :: bl2) := fun e he hne => by
    rcases List.mem_append.1 he with he | he
    · exact List.mem_cons_of_mem _ (List.mem_append_left _ he)
    · rcases List.mem_cons.1 he with rfl | he
      · exact absurd rfl hne
      · exact List.mem_cons_of_mem _ (List.mem_append_right _ (List.mem_cons_of_mem _ he))
  refine SeqD.load (l := [.sl (some (bi, 0)) m full sz]) hw ho hev hty (by rw [hsz]; exact h1) (by rw [hag]; rfl) hp (fun hd => born_ok hd hld g hin rfl rfl hb ((hfo b).2 (h6 b h4).1)) (fun hd SS h7 => same_before hd hld h7 hin rfl ((hfo b).2 (h6 b h4).1) h1) (fun hd SP SS h7 h8 => ⟨?_, ?_⟩) hs
  · show LR _ (bif C.dr then (i, (j, off, 1), false) :: sp else sp) _
    rw [hd, cond_true]
    refine ⟨⟨⟨rfl, rfl, rfl⟩, fun _ => ⟨_, hjin, rfl, (hf' b).2 h4, h1⟩⟩, h7.memImp fun t ht lo ⟨k1, k2⟩ => ⟨k1, fun hst => ?_⟩⟩
    obtain ⟨e, he, hej, hfe, hl⟩ := k2 hst
    have hne : e.j ≠ j := by
      rcases noTk_ok hno t ht with k3 | k3
      · rw [hst] at k3; cases k3
      · rw [hej]; exact k3
    exact ⟨e, back e he hne, hej, (hff e he lo.b).2 hfe, hl⟩
  · show LR _ ss' SS
    rw [hss hd]
    refine h8.imp fun t sn ⟨k1, k2⟩ => ⟨k1, fun e he hm x hx => ?_⟩
    unfold modsT at hm
    dsimp only at hm
    rw [memN_append, Bool.or_eq_false_iff] at hm
    rcases List.mem_cons.1 he with e1 | e1
    · subst e1; have := hm.1; simp [memN] at this
    · obtain ⟨e', l1, lj, _, _, l2⟩ := old e e1
      exact k2 e' l1 (by rw [lj]; exact hm.2) x (l2 x hx).1

/-- A load of a value without addresses. -/
theorem Rn.loadFlat {t : TypeId} {a : Operand} {j off : Nat} {v : AV} {r : Res} {st : St} (ho : o.op = .load t a) (hpa : P.ev st.p a = .one (.ptr (some (j, off)))) (hty : (X.T t).ty.isNone = false)
    (hc : blk st.bl j (fun w b c => some (w, b, c)) = some (true, none, .res r)) (hld : ldOK C i none j st.ss = true) (hop : LoadS r off (X.T t).size (X.T t).isAgg v)
    (hr : Rn X nt k (.put C o.dst v rest i) S (loadSt C i j off (X.T t).size st) K) : Rn X nt k (.op C o rest i) S st K := by
  obtain ⟨hr⟩ := hr
  refine ⟨?_⟩
  obtain ⟨p, dc, bl, nb, sp, ss⟩ := st
  obtain ⟨w0, born0, c00, hin, hc⟩ := blk_ok (show blk bl j (fun w b c => some (w, b, c)) = some (true, none, .res r) from hc)
  injection hc with hc; injection hc with e1 hc; injection hc with e2 e3
  subst e1; subst e2; subst e3
  refine Run.opLoad ho hpa hty hin rfl hld (fun σ h b hb hent => ?_) hr
  unfold Ent at hent
  rw [show (⟨j, true, none, .res r⟩ : Bk).j = j from rfl, hb] at hent
  obtain ⟨h3, l, h4, h5⟩ := hop.2 b h hent
  exact ⟨by unfold Foot; rw [show (⟨j, true, none, .res r⟩ : Bk).j = j from rfl, hb]; exact h3, l, v, h4, h5, RAV.of_flat hop.1⟩

theorem Rn.closeRow {t : TypeId} {a x : Operand} {j off q m sz : Nat} {full : Bool} {cs : List Sc} {r r2 : Res} {bq : Option Nat} {st st' : St} (ho : o.op = .store t a x) (hpa : P.ev st.p a = .one (.ptr (some (j, off)))) (hpx : P.ev st.p x = .one (.sl (some (q, 0)) m full sz)) (hm : 0 < m) (hty : (X.T t).ty.isNone = false) (hsz : (X.T t).size = 1)
    (hc : blk st.bl j (fun w b c => some (w, b, c)) = some (true, none, .res r)) (hq : blk st.bl q (fun w b c => some (w, b, c)) = some (true, bq, .raw cs)) (hne : Nat.beq q j = false) (hcl : Closes r r2 off m full sz cs) (hwr : wrOK C i [j, q] st.sp = true) (hrest : rest = []) (hdst : o.dst = none) (hst : closeSt j q r2 st = some st')
    (hr : Rn X nt k (.leave .norm) S st' K) : Rn X nt k (.op C o rest i) S st K := by
  obtain ⟨hr⟩ := hr
  refine ⟨?_⟩
  subst hrest
  obtain ⟨p, dc, bl, nb, sp, ss⟩ := st
  have hpa : P.ev p a = .one (.ptr (some (j, off))) := hpa
  have hpx : P.ev p x = .one (.sl (some (q, 0)) m full sz) := hpx
  have hwr : wrOK C i [j, q] sp = true := hwr
  obtain ⟨w0, born0, c00, hin, hc⟩ := blk_ok (show blk bl j (fun w b c => some (w, b, c)) = some (true, none, .res r) from hc)
  injection hc with hc; injection hc with e1 hc; injection hc with e2 e3
  subst e1; subst e2; subst e3
  obtain ⟨w0, born0, c00, hinq, hc⟩ := blk_ok (show blk bl q (fun w b c => some (w, b, c)) = some (true, bq, .raw cs) from hq)
  injection hc with hc; injection hc with e1 hc; injection hc with e2 e3
  subst e1; subst e2; subst e3
  have hqj : q ≠ j := fun e => by subst e; simp at hne
  unfold closeSt at hst
  obtain ⟨bl1, w1, b1, c1, bl2, hbl, hst⟩ := updK_ok hst
  obtain ⟨bl3, hst, hsub, hkept, hdel⟩ := delK_ok hst
  injection hst with hst
  subst hst
  intro G hG Q hK c σ f h s g dcr hlen hw
  have s : SI G σ p bl nb f h := s
  have g : RG C.dr c C.ops.length i σ bl G.h h := g
  have : (⟨j, w1, b1, c1⟩ : Bk) = ⟨j, true, none, .res r⟩ := s.ok.same (by rw [hbl]; simp) hin rfl
  injection this with _ e1 e2 e3
  subst e1; subst e2; subst e3
  subst hbl
  have hx := s.ag.ev a
  rw [hpa] at hx
  obtain ⟨s', hev, a', rfl, b, hb, rfl⟩ := hx
  have hx := s.ag.ev x
  rw [hpx] at hx
  obtain ⟨s', hevx, hx⟩ := hx
  rcases hx with ⟨bi, hbi, rfl⟩ | ⟨_, h0, _⟩
  · have hR : r.R b h := by
      have := s.ok.ent _ hin
      unfold Ent at this; rw [show (⟨j, true, none, .res r⟩ : Bk).j = j from rfl, hb] at this; exact this
    have hfo : ∀ x, Foot σ h ⟨j, true, none, .res r⟩ x ↔ r.F b h x := fun x => by unfold Foot; rw [show (⟨j, true, none, .res r⟩ : Bk).j = j from rfl, hb]
    have hfq : ∀ x, Foot σ h ⟨q, true, born0, .raw cs⟩ x ↔ x = bi := fun x => by unfold Foot; rw [show (⟨q, true, born0, .raw cs⟩ : Bk).j = q from rfl, hbi]
    have hgq : h.get bi = some cs := by
      have := s.ok.ent _ hinq
      unfold Ent at this; rw [show (⟨q, true, born0, .raw cs⟩ : Bk).j = q from rfl, hbi] at this; exact this
    have hnf : ¬ r.F b h bi := fun hh => s.ok.dis _ hinq _ hin hqj (.inl rfl) bi ((hfq bi).2 rfl) ((hfo bi).2 hh)
    obtain ⟨h1, l, h2, h3, h4, h5, h6⟩ := hcl b bi h hR hgq hnf
    generalize hL : l.take off ++ [Sc.sl (some (bi, 0)) m full sz] ++ l.drop (off + 1) = L at h4 h5 h6
    have hbF : Foot σ h ⟨j, true, none, .res r⟩ b := (hfo b).2 h1
    have hro : h.ro ≤ b := s.ok.wr _ hin rfl b hbF
    have ap := fun e he => s.ok.apart (e1 := ⟨j, true, none, .res r2⟩) rfl e he
    have hget : ∀ e ∈ bl1 ++ ⟨j, true, none, .res r⟩ :: bl2, e.j ≠ j → ∀ x, Foot σ h e x → (h.put b L).get x = h.get x := fun e he hne x hx => by
      rw [H.get_put, if_neg fun e' => ?_]
      subst e'
      exact s.ok.dis e he _ hin hne (.inr rfl) x hx hbF
    have hff : ∀ e ∈ bl1 ++ ⟨j, true, none, .res r⟩ :: bl2, e.j ≠ j → Ent σ (h.put b L) e ∧ ∀ x, Foot σ (h.put b L) e x ↔ Foot σ h e x := fun e he hne => (s.ok.ent e he).frame (hget e he hne)
    have hf2 : ∀ x, Foot σ (h.put b L) ⟨j, true, none, .res r2⟩ x ↔ r2.F b (h.put b L) x := fun x => by unfold Foot; rw [show (⟨j, true, none, .res r2⟩ : Bk).j = j from rfl, hb]
    have hu2 : ((bl1 ++ ⟨j, true, none, .res r2⟩ :: bl2).map Bk.j).Nodup := by have := s.ok.uniq; simpa using this
    -- each entry behind it lies within those ahead of it
    have old : ∀ e ∈ bl3, ∀ x, Foot σ (h.put b L) e x → (e.j = j ∧ e.w = true ∧ (Foot σ h ⟨j, true, none, .res r⟩ x ∨ x = bi)) ∨ (e.j ≠ j ∧ e.j ≠ q ∧ e ∈ bl1 ++ ⟨j, true, none, .res r⟩ :: bl2 ∧ Foot σ h e x) := fun e he x hx => by
      have hq' := hdel hu2 e he
      rcases ap e (hsub.subset he) with rfl | ⟨hne, he'⟩
      · refine .inl ⟨rfl, rfl, ?_⟩
        rcases h6 x ((hf2 x).1 hx) with h7 | h7
        · exact .inl ((hfo x).2 h7)
        · exact .inr h7
      · exact .inr ⟨hne, hq', he', ((hff e he' hne).2 x).1 hx⟩
    have hlowq := s.ok.low _ hinq bi ((hfq bi).2 rfl)
    have hwrq := s.ok.wr _ hinq rfl bi ((hfq bi).2 rfl)
    have hok : BlOK σ bl3 (h.put b L) := by
      refine ⟨fun e he => ?_, fun e he x hx => ?_, fun e he hwe x hx => ?_, (hsub.map _).nodup hu2, fun e he e2 he2 hne hww x hx hx2 => ?_⟩
      · rcases ap e (hsub.subset he) with rfl | ⟨hne, he'⟩
        · unfold Ent; rw [show (⟨j, true, none, .res r2⟩ : Bk).j = j from rfl, hb]; exact h4
        · exact (hff e he' hne).1
      · rcases old e he x hx with ⟨_, _, h7 | h7⟩ | ⟨_, _, h7, h8⟩
        · exact s.ok.low _ hin x h7
        · subst h7; exact hlowq
        · exact s.ok.low e h7 x h8
      · rcases old e he x hx with ⟨_, _, h7 | h7⟩ | ⟨_, _, h7, h8⟩
        · exact s.ok.wr _ hin rfl x h7
        · subst h7; exact hwrq
        · exact s.ok.wr e h7 hwe x h8
      · rcases old e he x hx with ⟨hj, _, h7⟩ | ⟨hj, hq1, h7, h8⟩
        · rcases old e2 he2 x hx2 with ⟨hj2, _, _⟩ | ⟨hj2, hq2, g7, g8⟩
          · exact hne (by rw [hj, hj2])
          · rcases h7 with h7 | h7
            · exact s.ok.dis _ hin e2 g7 (fun c => hj2 c.symm) (.inl rfl) x h7 g8
            · subst h7; exact s.ok.dis _ hinq e2 g7 (fun c => hq2 c.symm) (.inl rfl) x ((hfq x).2 rfl) g8
        · rcases old e2 he2 x hx2 with ⟨hj2, _, g7⟩ | ⟨hj2, hq2, g7, g8⟩
          · rcases g7 with g7 | g7
            · exact s.ok.dis e h7 _ hin hj (.inr rfl) x h8 g7
            · subst g7; exact s.ok.dis e h7 _ hinq hq1 (.inr rfl) x h8 ((hfq x).2 rfl)
          · exact s.ok.dis e h7 e2 g7 hne hww x h8 g8
    have hgl := g.lo
    have s2 : SI G σ p bl3 nb f (h.put b L) := by
      refine ⟨s.ag, hok, s.top, s.nx, s.ro, s.lo, fun x hx hmd => ?_, fun e he hwe x hx => ?_, s.kn, s.pin⟩
      · rw [H.get_put]
        split
        · rename_i e
          subst e
          rcases s.own _ hin rfl _ hbF with h7 | h7
          · omega
          · exact absurd h7 hmd
        · exact s.keep x hx hmd
      · rcases old e he x hx with ⟨_, _, h7 | h7⟩ | ⟨_, _, h7, h8⟩
        · exact s.own _ hin rfl x h7
        · subst h7; exact s.own _ hinq rfl _ ((hfq x).2 rfl)
        · exact s.own e h7 hwe x h8
    have hfin := hr G hG Q hK σ f _ s2
    have hstore : h.store b off [Sc.sl (some (bi, 0)) m full sz] = some (h.put b L) := by
      rw [H.store_of hro h2 h3, ← hL]; rfl
    refine SeqD.write (σ' := σ) (bl' := []) (sp' := sp.map fun t => (t.1, t.2.1, true)) (ss' := (i, []) :: ss) hw (by rw [ho]; rfl) (by rw [ho]; rfl) (v' := undefA) (h' := h.put b L) (f1 := f) ?_ (by rw [hdst]; rfl) (fun hd => wr_mask hd hwr) (fun hd SP h7 => ?_) (fun hd SP SS h7 h8 => ⟨?_, ⟨rfl, fun e he => by cases he⟩, ?_⟩) (SeqD.nil hfin)
    · rw [ho]
      simp only [aop, hev, hty, Bool.false_eq_true, if_false, hevx, AV.cells, Option.bind_some]
      rw [if_pos (by rw [hsz]; rfl), hstore]; rfl
    · unfold wrOK at hwr
      rw [hd, cond_true, Bool.and_eq_true] at hwr
      replace hwr := hwr.2
      rw [ldL_eq] at hwr
      have key : ∀ (sp : Tk) (SP : List Lo), LR (TkR σ (bl1 ++ ⟨j, true, none, .res r⟩ :: bl2) h) sp SP → allB (fun s => (C.bs.getD i 0).testBit s.1 || (!s.2.2 && !memN s.2.1.1 [j, q])) sp = true → sameLoads (C.bs.getD i 0) (h.put b L) SP = true := by
        unfold sameLoads
        intro sp
        induction sp with
        | nil => intro SP h7 _; cases SP with
          | nil => rfl
          | cons => exact h7.elim
        | cons t sp ih => intro SP h7 hwr; cases SP with
          | nil => exact h7.elim
          | cons lo SP =>
            simp only [allB, Bool.and_eq_true] at hwr ⊢
            refine ⟨?_, ih SP h7.2 hwr.2⟩
            obtain ⟨k1, k2⟩ := h7.1
            rw [k1.1]
            have := hwr.1
            rw [Bool.or_eq_true] at this ⊢
            rcases this with k3 | k3
            · exact .inl k3
            · refine .inr ?_
              rw [Bool.and_eq_true, Bool.not_eq_true', Bool.not_eq_true'] at k3
              obtain ⟨e, he, hej, hfe, hl⟩ := k2 k3.1
              have hnj : e.j ≠ j := fun c => by
                have := k3.2
                rw [← hej, c] at this
                simp [memN] at this
              rw [decide_eq_true_iff]
              exact load_get2 (hget e he hnj lo.b hfe) hl
      exact key sp SP h7 hwr
    · exact LR.map2 (fun t lo ⟨k1, _⟩ => ⟨k1, fun h => by cases h⟩) h7
    · exact h8.mono fun t sn ⟨k1, _⟩ => ⟨k1, fun e he => by cases he⟩
  · omega

theorem Rn.odd (hz : ZeroFlat X) (n : Nat) {F : Fo} {S' : List Kt} {st st1 : St} {r : Rs} (hx : exec X nt n F S' st = some (.odd r st1)) (h : Rn X nt k (.op r.C r.o r.rest r.i) r.S st1 K) : Rn X nt k F S' st K := ⟨Run.step hz n hx h.run⟩
end
end Go.AM
end

section
/- What a walk says of the machine: a call that writes, in a region whose order is drawn, beside loads that it leaves as they were. No program here. -/
set_option linter.unusedSimpArgs false
set_option linter.unusedVariables false
namespace Go.AM
open Go

theorem RSc.det {τ : Sg} {s x y : Sc} (h : RSc τ s x) (h' : RSc τ s y) : x = y := by
  have pt : ∀ {a a1 a2 : Nat × Nat}, RPt τ a a1 → RPt τ a a2 → a1 = a2 := fun {a a1 a2} ⟨b, e, e1⟩ ⟨b', e', e2⟩ => by
    rw [e] at e'; injection e' with e'; injection e' with e'
    rw [e1, e2, e']
  cases s with
  | ptr a => cases a with
    | none => exact (show x = _ from h).trans (show y = _ from h').symm
    | some a =>
      obtain ⟨a1, rfl, h1⟩ := h
      obtain ⟨a2, rfl, h2⟩ := h'
      rw [pt h1 h2]
  | sl a n f z => cases a with
    | none => exact (show x = _ from h).trans (show y = _ from h').symm
    | some a =>
      rcases h with ⟨b, e, rfl⟩ | ⟨e, _, rfl⟩ <;> rcases h' with ⟨b', e', rfl⟩ | ⟨e', _, rfl⟩
      · rw [e] at e'; injection e' with e'; injection e' with e'; rw [e']
      · rw [e] at e'; cases e'
      · rw [e] at e'; cases e'
      · rfl
  | fn g caps =>
    obtain ⟨c1, rfl, h1⟩ := h
    obtain ⟨c2, rfl, h2⟩ := h'
    have all : ∀ (caps c1 c2 : List (Nat × Nat)), LR (RPt τ) caps c1 → LR (RPt τ) caps c2 → c1 = c2 := by
      intro caps
      induction caps with
      | nil => intro c1 c2 h1 h2; cases c1 with
        | nil => cases c2 with
          | nil => rfl
          | cons => exact h2.elim
        | cons => exact h1.elim
      | cons a caps ih => intro c1 c2 h1 h2; cases c1 with
        | nil => exact h1.elim
        | cons b c1 => cases c2 with
          | nil => exact h2.elim
          | cons b' c2 => rw [pt h1.1 h2.1, ih c1 c2 h1.2 h2.2]
    rw [all caps c1 c2 h1 h2]
  | _ => exact (show x = _ from h).trans (show y = _ from h').symm
theorem LR.det {τ : Sg} : ∀ {l l1 l2 : List Sc}, LR (RSc τ) l l1 → LR (RSc τ) l l2 → l1 = l2
  | [], [], [], _, _ => rfl
  | a :: l, b :: l1, b' :: l2, h, h' => by rw [RSc.det h.1 h'.1, LR.det h.2 h'.2]
  | [], _ :: _, _, h, _ => h.elim
  | [], [], _ :: _, _, h => h.elim
  | _ :: _, [], _, h, _ => h.elim
  | _ :: _, _ :: _, [], _, h => h.elim

theorem mask_get (h : H) (c : Nat) : ∀ (m : List Nat) (h : H) (x : Nat), (maskH h c m).get x = if ∃ j ∈ m, x = c + j then none else h.get x
  | [], h, x => by simp [maskH]
  | j :: m, h, x => by
    rw [maskH, mask_get h c m, H.get_kill]
    by_cases h1 : ∃ j ∈ m, x = c + j
    · rw [if_pos h1, if_pos (by obtain ⟨j', a, b⟩ := h1; exact ⟨j', List.mem_cons_of_mem _ a, b⟩)]
    · rw [if_neg h1]
      by_cases h2 : x = c + j
      · rw [if_pos h2, if_pos ⟨j, List.mem_cons_self, h2⟩]
      · rw [if_neg h2, if_neg]
        rintro ⟨j', a, b⟩
        rcases List.mem_cons.1 a with a | a
        · subst a; exact h2 b
        · exact h1 ⟨j', a, b⟩
theorem mask_nx (c : Nat) : ∀ (m : List Nat) (h : H), (maskH h c m).nx = h.nx ∧ (maskH h c m).ro = h.ro
  | [], h => ⟨rfl, rfl⟩
  | j :: m, h => by rw [maskH]; exact mask_nx c m (h.kill (c + j))
theorem unmask_get (h : H) (c : Nat) : ∀ (m : List Nat) (h' : H) (x : Nat), (unmaskH h c m h').get x = if ∃ j ∈ m, x = c + j then h.get x else h'.get x
  | [], h', x => by simp [unmaskH]
  | j :: m, h', x => by
    rw [unmaskH, unmask_get h c m]
    by_cases h1 : ∃ j ∈ m, x = c + j
    · rw [if_pos h1, if_pos (by obtain ⟨j', a, b⟩ := h1; exact ⟨j', List.mem_cons_of_mem _ a, b⟩)]
    · rw [if_neg h1]
      by_cases h2 : x = c + j
      · subst h2
        rw [if_pos ⟨j, List.mem_cons_self, rfl⟩]
        cases hg : h.get (c + j) with
        | none => simp [H.get_kill]
        | some l => simp [H.get_put]
      · rw [if_neg (by
          rintro ⟨j', a, b⟩
          rcases List.mem_cons.1 a with a | a
          · subst a; exact h2 b
          · exact h1 ⟨j', a, b⟩)]
        split
        · rw [H.get_put, if_neg h2]
        · rw [H.get_kill, if_neg h2]
theorem unmask_nx (h : H) (c : Nat) : ∀ (m : List Nat) (h' : H), (unmaskH h c m h').nx = h'.nx ∧ (unmaskH h c m h').ro = h'.ro
  | [], h' => ⟨rfl, rfl⟩
  | j :: m, h' => by
    rw [unmaskH]
    split
    · exact unmask_nx h c m _
    · exact unmask_nx h c m _

/-- With the blocks that are known as they were. -/
theorem SI.frame {G : Gh} {σ : Sg} {p : P} {bl : BL} {nb : Nat} {f : FF} {h h2 : H} (s : SI G σ p bl nb f h) (hg : ∀ e ∈ bl, ∀ x, Foot σ h e x → h2.get x = h.get x) (hl : ∀ x, x < G.h.nx → h2.get x = h.get x) (hnx : h2.nx = h.nx) (hro : h2.ro = h.ro) : SI G σ p bl nb f h2 := by
  obtain ⟨hok, hff⟩ := s.ok.frame (Sg.le.refl σ) hg (by omega) hro
  exact ⟨s.ag, hok, s.top, by rw [hnx]; exact s.nx, by rw [hro]; exact s.ro, s.lo, fun i hi hmd => (hl i hi).trans (s.keep i hi hmd), fun e he hw i hi => s.own e he hw i ((hff e he i).1 hi), s.kn, s.pin⟩
theorem RG.frame {dr : Bool} {c len i : Nat} {σ : Sg} {bl : BL} {h0 h h2 : H} (g : RG dr c len i σ bl h0 h) (hf : ∀ e ∈ bl, ∀ x, Foot σ h2 e x ↔ Foot σ h e x) (hnx : h2.nx = h.nx) : RG dr c len i σ bl h0 h2 := by
  refine ⟨g.lo, by rw [hnx]; exact g.hi, fun e he x hx => g.fresh e he x ((hf e he x).1 hx), fun hd e he => ?_⟩
  have := g.born hd e he
  cases hb : e.born with
  | none => rw [hb] at this; intro x hx; exact this x ((hf e he x).1 hx)
  | some k => rw [hb] at this; exact this

noncomputable section
def noMaskB (bi i : Nat) : Nat → List Oper → Bool
  | _, [] => true
  | k, o :: l => (!isN o.op || bi.testBit k || Nat.blt i k) && noMaskB bi i (k + 1) l
def bornNone : BL → Bool
  | [] => true
  | ⟨_, _, b, _⟩ :: l => (match b with | none => true | some _ => false) && bornNone l
/-- Loads that a write leaves as they were. -/
def SurvL (bi : Nat) (bl bl' : BL) : Tk → Prop
  | [] => True
  | (i, (j, off, n), s) :: l => (bi.testBit i = true ∨ (s = false ∧ ∃ w b old w' b' new, blk bl j (fun w b c => some (w, b, c)) = some (w, b, Cl.ex old) ∧ blk bl' j (fun w b c => some (w, b, c)) = some (w', b', Cl.ex new) ∧ Nat.ble (off + n) old.length = true ∧ Nat.ble (off + n) new.length = true ∧ (new.drop off).take n = (old.drop off).take n)) ∧ SurvL bi bl bl' l
def staleAll : Tk → Tk
  | [] => []
  | (i, j, _) :: l => (i, j, true) :: staleAll l
def placesOf : BL → List Nat
  | [] => []
  | ⟨j, _, _, _⟩ :: l => j :: placesOf l
def afterSt (i : Nat) (sp : Tk) (st : St) : St := match st with
  | ⟨p, dc, bl, nb, _, _⟩ => ⟨p, dc, bl, nb, staleAll sp, [(i, placesOf bl)]⟩
end
theorem noMaskB_ok {ops : List Oper} {bi i : Nat} (hm : noMaskB bi i 0 ops = true) : ∀ j ∈ maskOf ops bi, i < j ∧ j < ops.length := by
  have all : ∀ (l : List Oper) (k : Nat), noMaskB bi i k l = true → ∀ j o, l[j]? = some o → isN o.op = true → bi.testBit (k + j) = false → i < k + j := by
    intro l
    induction l with
    | nil => intro k _ j o hj; simp at hj
    | cons a l ih =>
      intro k hk j o hj hn hb
      unfold noMaskB at hk
      rw [Bool.and_eq_true, Bool.or_eq_true, Bool.or_eq_true] at hk
      cases j with
      | zero =>
        simp at hj; subst hj
        rcases hk.1 with (h1 | h1) | h1
        · rw [hn] at h1; cases h1
        · rw [Nat.add_zero] at hb; rw [hb] at h1; cases h1
        · exact Nat.le_of_ble_eq_true h1
      | succ j =>
        have := ih (k + 1) hk.2 j o (by simpa using hj) hn (by rw [← hb]; congr 1; omega)
        omega
  intro j hj
  unfold maskOf at hj
  obtain ⟨h1, h2⟩ := List.mem_filter.1 hj
  have h1 := List.mem_range.1 h1
  rw [Bool.and_eq_true, Bool.not_eq_true', List.getD_eq_getElem?_getD, List.getElem?_eq_getElem h1] at h2
  have := all ops 0 hm j ops[j] (List.getElem?_eq_getElem h1) h2.1 (by rw [Nat.zero_add]; exact h2.2)
  exact ⟨by omega, h1⟩
theorem bornNone_ok : ∀ {bl : BL}, bornNone bl = true → ∀ e ∈ bl, e.born = none
  | [], _, e, h => by cases h
  | ⟨j, w, b, c⟩ :: l, h, e, he => by
    unfold bornNone at h
    rw [Bool.and_eq_true] at h
    rcases List.mem_cons.1 he with e1 | e1
    · subst e1
      cases b with
      | none => rfl
      | some k => cases h.1
    · exact bornNone_ok h.2 e e1

section
variable {X : Env} {nt k : Nat} {C : Cx} {o : Oper} {rest : List Oper} {i : Nat} {S : List Kt} {K : KC}

theorem SeqD.callM {c : Nat} {f f1 : FF} {h h1 : H} {σ σ' : Sg} {bl bl' : BL} {sp sp' : Tk} {ss ss' : Ts} {KK : FF → H → Prop} {g : FuncId} {args : List AV} {v' : AV} (hd : C.dr = true) (hw : wantedF C.ops f o = some true) (hc : isCall o.op = true) (hcal : callee f.ev o.op = some (g, args)) (hW : isW X o.op = true)
    (ha : CallsA X g args (maskH h c (maskOf C.ops (C.bs.getD i 0))) v' h1) (hp : putF nt f o.dst v' = some f1) (hs : ∀ SP, LR (TkR σ bl h) sp SP → sameLoads (C.bs.getD i 0) (unmaskH h c (maskOf C.ops (C.bs.getD i 0)) h1) SP = true)
    (ht : ∀ SP SS, LR (TkR σ bl h) sp SP → LR (TsR σ bl h) ss SS → LR (TkR σ' bl' (unmaskH h c (maskOf C.ops (C.bs.getD i 0)) h1)) sp' SP ∧ LR (TsR σ' bl' (unmaskH h c (maskOf C.ops (C.bs.getD i 0)) h1)) ss' (⟨i, h⟩ :: SS))
    (hr : SeqD X nt C c (i + 1) rest f1 (unmaskH h c (maskOf C.ops (C.bs.getD i 0)) h1) σ' bl' sp' ss' KK) : SeqD X nt C c i (o :: rest) f h σ bl sp ss KK := by
  obtain ⟨n, ha⟩ := ha
  rw [SeqD.draw hd] at hr ⊢
  intro SP SS h2 h3
  obtain ⟨t1, t2⟩ := ht SP SS h2 h3
  refine DrawF.cons n (f1 := f1) (h1 := unmaskH h c (maskOf C.ops (C.bs.getD i 0)) h1) (sp1 := SP) (ss1 := ⟨i, h⟩ :: SS) ?_ (hr SP _ t1 t2)
  unfold drawStepF
  rw [hw, Option.bind_some, if_pos rfl, if_pos hW, if_pos hc, hcal]
  simp only [Option.bind_some, ha, hs SP h2, if_true, hp, Option.map_some]

theorem Rn.opCallX {f0 : Operand} {args : Array Operand} {ts : Array TypeId} {g : FuncId} {caps : List (Nat × Nat)} {st : St} {A : Type} {V : A → AV} {B : A → BL} {nb' : A → Nat} {args0 : List AV} {bl0 : BL} {nb0 : Nat} (ho : o.op = .call ⟨.value f0, args, ts⟩) (hpf : P.ev st.p f0 = .one (.fn g caps))
    (ct : Ct X g args0 bl0 nb0 A V B nb') (tl : List (Option Nat)) (htl : lenK tl nb0 = true) (hra : RvArgs tl args0 (args.toList.map (P.ev st.p) ++ caps.map fun a => .one (.ptr (some a)))) (hrb : RvBL tl st.bl bl0) (hnd : nodupB (fromJ tl bl0) = true) (hnd2 : nodupB (bl0.map Bk.j) = true)
    (hd : C.dr = true) (hW : isW X o.op = true) (hss : st.ss = []) (hbn : bornNone st.bl = true) (hmask : noMaskB (C.bs.getD i 0) i 0 C.ops = true)
    (hr : ∀ a, ∃ v' st', callSt ⟨[], false, []⟩ 0 tl nb0 bl0 (V a) (B a) (nb' a) st = some (v', st') ∧ SurvL (C.bs.getD i 0) st.bl st'.bl st.sp ∧ Rn X nt k (.put C o.dst v' rest i) S (afterSt i st.sp st') K) : Rn X nt k (.op C o rest i) S st K := by
  refine ⟨?_⟩
  obtain ⟨p, dc, bl, nb, sp, ss⟩ := st
  have hss : ss = [] := hss
  subst hss
  have hpf : P.ev p f0 = .one (.fn g caps) := hpf
  have hrb : RvBL tl bl bl0 := hrb
  have hbn : bornNone bl = true := hbn
  have hra : RvArgs tl args0 (args.toList.map (P.ev p) ++ caps.map fun a => .one (.ptr (some a))) := hra
  intro G hG Q hK c σ f h s g' dcr hlen hw
  have s : SI G σ p bl nb f h := s
  have g' : RG C.dr c C.ops.length i σ bl G.h h := g'
  have hx := s.ag.ev f0
  rw [hpf] at hx
  obtain ⟨s', hev, cs, rfl, rc⟩ := hx
  have hargs : LR (RAV σ) (args.toList.map (P.ev p) ++ caps.map fun a => .one (.ptr (some a))) (args.toList.map f.ev ++ cs.map fun a => .one (.ptr (some a))) := by
    refine LR.append ?_ ?_
    · exact LR.self (fun x => s.ag.ev x) _
    · exact LR.map (R := RPt σ) (fun x y h => ⟨_, rfl, y, rfl, h⟩) rc
  have hargs := RvArgs_ok hra hargs
  have hcal : callee f.ev o.op = some (g, args.toList.map f.ev ++ cs.map fun a => .one (.ptr (some a))) := by
    rw [ho]
    unfold callee
    dsimp only
    rw [hev]
  have hcl : isCall o.op = true := by rw [ho]; rfl
  -- the blocks that may not be there yet
  have hmo := noMaskB_ok hmask
  have hMn := mask_nx c (maskOf C.ops (C.bs.getD i 0)) h
  have hav : ∀ e ∈ bl, ∀ x, Foot σ h e x → ¬ ∃ j ∈ maskOf C.ops (C.bs.getD i 0), x = c + j := fun e he x hx ⟨j, hj, e1⟩ => by
    obtain ⟨h1, h2⟩ := hmo j hj
    exact g'.fresh e he x hx j (by omega) h2 e1
  have hlow : ∀ x, x < G.h.nx → ¬ ∃ j ∈ maskOf C.ops (C.bs.getD i 0), x = c + j := fun x hx ⟨j, _, e1⟩ => by have := g'.lo; omega
  have hMg : ∀ e ∈ bl, ∀ x, Foot σ h e x → (maskH h c (maskOf C.ops (C.bs.getD i 0))).get x = h.get x := fun e he x hx => by rw [mask_get h, if_neg (hav e he x hx)]
  have sM : SI G σ p bl nb f (maskH h c (maskOf C.ops (C.bs.getD i 0))) := s.frame hMg (fun x hx => by rw [mask_get h, if_neg (hlow x hx)]) hMn.1 hMn.2
  have fM : ∀ e ∈ bl, ∀ x, Foot σ (maskH h c (maskOf C.ops (C.bs.getD i 0))) e x ↔ Foot σ h e x := fun e he x => ((s.ok.ent e he).frame (hMg e he)).2 x
  have gM : RG C.dr c C.ops.length i σ bl G.h (maskH h c (maskOf C.ops (C.bs.getD i 0))) := g'.frame fM hMn.1
  generalize hMdef : maskH h c (maskOf C.ops (C.bs.getD i 0)) = hM at *
  obtain ⟨hbc, hold0⟩ := hrb.ok hnd hnd2 sM.ok
  have htl := lenK_ok htl
  have htop0 : ∀ j, nb0 ≤ j → reσ tl σ j = none := fun j hj => by
    unfold reσ
    rw [nth_eq, List.getElem?_eq_none (by omega)]
  have hlo := sM.lo
  have hnx := sM.nx
  have hro := sM.ro
  have hgl := gM.lo
  have hgh := gM.hi
  obtain ⟨v', h1, hca, a, σc, hsame0, htopc, hnx', hro', hv, hbB, hkeep, hfB, hjB⟩ := ct _ _ _ hargs hbc (by omega) htop0
  obtain ⟨v2, st', hst, hsv, hrun⟩ := hr a
  unfold callSt at hst
  dsimp only at hst
  obtain ⟨mods, hst, hmd⟩ := wFrom_ok hst
  rw [Bool.false_and, cond_false] at hst
  obtain ⟨bl1, hst, hsl, hcomp, hdel⟩ := delsK_ok hst
  obtain ⟨Ba', τ, hst, hle, hfj, s2, g2, kp⟩ := call_core sM gM hold0 hsame0 htopc hnx' hro' hbB hkeep hfB hjB hmd (fun _ e he _ => bornNone_ok hbn e he) hsl hcomp (hdel sM.ok.uniq) hst
  have hst := appK_ok (jsK_ok hst)
  obtain ⟨_, sp', ss', hst, _⟩ := wroteK_ok hst
  obtain ⟨v3, hst, hv3⟩ := fwdAV_ok hfj hst
  injection hst with hst
  injection hst with e1 e2
  subst e1; subst e2
  have hv := hv3 _ hv
  -- behind it
  have hUn := unmask_nx h c (maskOf C.ops (C.bs.getD i 0)) h1
  have hUg : ∀ e ∈ Ba' ++ bl1, ∀ x, Foot τ h1 e x → (unmaskH h c (maskOf C.ops (C.bs.getD i 0)) h1).get x = h1.get x := fun e he x hx => by
    rw [unmask_get, if_neg]
    rintro ⟨j, hj, e1⟩
    obtain ⟨k1, k2⟩ := hmo j hj
    exact g2.fresh e he x hx j (by omega) k2 e1
  have sU := s2.frame (h2 := unmaskH h c (maskOf C.ops (C.bs.getD i 0)) h1) hUg (fun x hx => by rw [unmask_get, if_neg (hlow x hx)]) hUn.1 hUn.2
  have fU : ∀ e ∈ Ba' ++ bl1, ∀ x, Foot τ (unmaskH h c (maskOf C.ops (C.bs.getD i 0)) h1) e x ↔ Foot τ h1 e x := fun e he x => ((s2.ok.ent e he).frame (hUg e he)).2 x
  have gU := g2.frame fU hUn.1
  obtain ⟨f1, hp, hs⟩ := hrun.run G hG Q hK c τ f (unmaskH h c (maskOf C.ops (C.bs.getD i 0)) h1) v' sU hv gU dcr hlen
  refine SeqD.callM hd hw hcl hcal hW (h1 := h1) (by rw [hMdef]; exact hca) hp (fun SP h2 => ?_) (fun SP SS h2 h3 => ⟨?_, ?_⟩) hs
  · have hsv : SurvL (C.bs.getD i 0) bl (Ba' ++ bl1) sp := hsv
    unfold sameLoads
    have key : ∀ (sp : Tk) (SP : List Lo), LR (TkR σ bl h) sp SP → SurvL (C.bs.getD i 0) bl (Ba' ++ bl1) sp → allB (fun s => (C.bs.getD i 0).testBit s.i || decide ((unmaskH h c (maskOf C.ops (C.bs.getD i 0)) h1).load s.b s.o s.l.length = some s.l)) SP = true := by
      intro sp
      induction sp with
      | nil => intro SP h2 _; cases SP with
        | nil => rfl
        | cons => exact h2.elim
      | cons t sp ih => intro SP h2 hsv; cases SP with
        | nil => exact h2.elim
        | cons lo SP =>
          obtain ⟨ti, ⟨j, off, n⟩, ts⟩ := t
          obtain ⟨hs1, hs2⟩ := hsv
          obtain ⟨⟨⟨k1, k2, k3⟩, k4⟩, k5⟩ := h2
          simp only [allB, Bool.and_eq_true, Bool.or_eq_true]
          refine ⟨?_, ih SP k5 hs2⟩
          have k1 : lo.i = ti := k1
          have k2 : lo.o = off := k2
          have k3 : lo.l.length = n := k3
          rw [k1]
          rcases hs1 with hs1 | ⟨hs1, w, b, old, w', b', new, b1, b2, b3, b4, b5⟩
          · exact .inl hs1
          · refine .inr ?_
            rw [decide_eq_true_iff]
            obtain ⟨e, he, hej, hfe, hl⟩ := k4 hs1
            have hej : e.j = j := hej
            obtain ⟨_, _, _, hm1, hq1⟩ := blk_ok b1
            injection hq1 with hq1; injection hq1 with q1 hq1; injection hq1 with q2 q3
            subst q1; subst q2; subst q3
            obtain ⟨_, _, _, hm2, hq1⟩ := blk_ok b2
            injection hq1 with hq1; injection hq1 with q1 hq1; injection hq1 with q2 q3
            subst q1; subst q2; subst q3
            have ee := s.ok.same he hm1 hej
            rw [ee] at hfe
            have b3 := Nat.le_of_ble_eq_true b3
            have b4 := Nat.le_of_ble_eq_true b4
            have hent := s.ok.ent _ hm1
            have hent2 := sU.ok.ent _ hm2
            unfold Foot at hfe
            unfold Ent at hent hent2
            dsimp only at hfe hent hent2
            cases hσ : σ j with
            | none => rw [hσ] at hfe; exact hfe.elim
            | some r => cases r with
              | none => rw [hσ] at hfe; exact hfe.elim
              | some bb =>
                rw [hσ] at hfe hent
                rw [hle _ _ hσ] at hent2
                have hfe : lo.b = bb := hfe
                obtain ⟨l0, g1, g2'⟩ := hent
                obtain ⟨l1, g3, g4⟩ := hent2
                have hl2 : h.load lo.b lo.o lo.l.length = some lo.l := hl
                rw [hfe, k2, k3] at hl2 ⊢
                rw [H.load_of g1 (by rw [← g2'.length]; exact b3)] at hl2
                injection hl2 with hl2
                rw [H.load_of g3 (by rw [← g4.length]; exact b4), ← hl2]
                congr 1
                have d1 := ((g2'.mono fun _ _ => RSc.mono hle).drop off).take n
                have d2 := (g4.drop off).take n
                rw [b5] at d2
                exact LR.det d2 d1
    exact key sp SP h2 hsv
  · show LR _ (staleAll sp) SP
    have key : ∀ (sp : Tk) (SP : List Lo), LR (TkR σ bl h) sp SP → LR (TkR τ (Ba' ++ bl1) (unmaskH h c (maskOf C.ops (C.bs.getD i 0)) h1)) (staleAll sp) SP := by
      intro sp
      induction sp with
      | nil => intro SP h2; cases SP with
        | nil => trivial
        | cons => exact h2.elim
      | cons t sp ih => intro SP h2; cases SP with
        | nil => exact h2.elim
        | cons lo SP =>
          obtain ⟨ti, tj, ts⟩ := t
          exact ⟨⟨h2.1.1, fun h => by cases h⟩, ih SP h2.2⟩
    exact key sp SP h2
  · show LR _ [(i, placesOf (Ba' ++ bl1))] _
    refine ⟨⟨rfl, fun e he hm => ?_⟩, ?_⟩
    · have all : ∀ (l : BL), e ∈ l → memN e.j (placesOf l) = true := by
        intro l
        induction l with
        | nil => intro h; cases h
        | cons a l ih =>
          obtain ⟨j, w, b, c⟩ := a
          intro he
          unfold placesOf memN
          rcases List.mem_cons.1 he with e1 | e1
          · subst e1; simp
          · rw [ih e1]; simp
      have hm : memN e.j (placesOf (Ba' ++ bl1)) = false := hm
      have he : e ∈ Ba' ++ bl1 := he
      rw [all _ he] at hm; cases hm
    · cases SS with
      | nil => trivial
      | cons => exact h3.elim
theorem Rn.callX (hz : ZeroFlat X) (n : Nat) {F : Fo} {S' : List Kt} {st st1 : St} {g : FuncId} {args : List AV} {r : Rs} (hx : exec X nt n F S' st = some (.call g args r st1)) (h : Rn X nt k (.op r.C r.o r.rest r.i) r.S st1 K) : Rn X nt k F S' st K := ⟨Run.step hz n hx (.inr h.run)⟩
end
end Go.AM
end
