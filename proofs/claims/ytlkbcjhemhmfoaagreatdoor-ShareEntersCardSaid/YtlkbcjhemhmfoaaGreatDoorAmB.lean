/- A region whose order is drawn: every operation; the region. No program here. -/
import Derived.Test.YtlkbcjhemhmfoaaGreatDoorAmA
set_option linter.unusedSimpArgs false
set_option linter.unusedVariables false
namespace Go.AM
open Go

section
variable {ρ : Rho}

theorem abuiltin_keep {X : Env} {h h' : H} {id : Nat} {b : Builtin} {ts : List TypeId} {args : List AV} {v : AV} (h1 : b ≠ .append) (h2 : b ≠ .copy) (h3 : b ≠ .clear) (ha : abuiltin X h id b ts args = some (v, h')) : h' = h := by
  unfold abuiltin at ha
  split at ha
  · split at ha <;> simp at ha <;> exact ha.2.symm
  · exact absurd rfl h1
  · exact absurd rfl h2
  · exact absurd rfl h3
  · simp at ha; exact ha.2.symm
  · simp at ha; exact ha.2.symm
  · simp at ha

/-- An operation that neither makes nor writes leaves the blocks. -/
theorem aop_keep {X : Env} {ev : Operand → AV} {h h' : H} {id : Nat} {op : Op} {v : AV} (hn : isN op = false) (hw : isW X op = false) (ha : aop X ev h id op = some (v, h')) : h' = h := by
  cases op with
  | alloc t => simp [isN] at hn
  | box t x => simp [isN] at hn
  | makeSlice t l c => simp [isN] at hn
  | buildSlice t n ps => simp [isN] at hn
  | store t x y => simp [isW] at hw
  | call c =>
    obtain ⟨cal, args, tys⟩ := c
    cases cal with
    | builtin b =>
      simp only [aop] at ha
      refine abuiltin_keep ?_ ?_ ?_ ha <;> rintro rfl <;> simp [isW] at hw
    | _ => simp [aop] at ha
  | move x => simp [aop] at ha; exact ha.2.symm
  | assign x => simp [aop] at ha; exact ha.2.symm
  | pick c x y => simp only [aop] at ha; split at ha <;> simp at ha; exact ha.2.symm
  | load t x =>
    simp only [aop] at ha
    split at ha
    · split at ha
      · simp at ha
      · simp only [Option.bind_eq_some_iff, Option.map_eq_some_iff, Prod.mk.injEq] at ha
        obtain ⟨_, _, _, _, _, rfl⟩ := ha; rfl
    · simp at ha
  | nilCheck x => simp only [aop] at ha; split at ha <;> simp at ha <;> exact ha.2.symm
  | binOp op t x y ty => simp only [aop, Option.map_eq_some_iff, Prod.mk.injEq] at ha; obtain ⟨_, _, _, rfl⟩ := ha; rfl
  | unOp op t x => simp only [aop, Option.map_eq_some_iff, Prod.mk.injEq] at ha; obtain ⟨_, _, _, rfl⟩ := ha; rfl
  | convert s d x => simp only [aop] at ha; split at ha <;> simp at ha; exact ha.2.symm
  | makeFunc f first caps =>
    cases f with
    | func g =>
      simp only [aop] at ha
      split at ha
      · simp only [Option.map_eq_some_iff, Prod.mk.injEq] at ha; obtain ⟨_, _, _, rfl⟩ := ha; rfl
      · simp at ha
    | _ => simp [aop] at ha
  | slice t x lo hi mx => simp only [aop, Option.map_eq_some_iff, Prod.mk.injEq] at ha; obtain ⟨_, _, _, rfl⟩ := ha; rfl
  | fieldAddr t x f =>
    simp only [aop] at ha
    split at ha
    · simp only [Option.bind_eq_some_iff, Prod.exists] at ha
      obtain ⟨_, _, _, ha⟩ := ha
      split at ha <;> simp at ha
      exact ha.2.symm
    · simp at ha
  | field t x f =>
    simp only [aop] at ha
    split at ha
    · simp only [Option.bind_eq_some_iff, Prod.exists] at ha
      obtain ⟨_, _, _, ha⟩ := ha
      split at ha
      · simp only [Option.map_eq_some_iff, Prod.mk.injEq] at ha; obtain ⟨_, _, _, rfl⟩ := ha; rfl
      · simp at ha
    · simp at ha
  | indexAddr t x i => simp only [aop, Option.map_eq_some_iff, Prod.mk.injEq] at ha; obtain ⟨_, _, _, rfl⟩ := ha; rfl
  | index t x i =>
    simp only [aop] at ha
    split at ha
    · split at ha
      · simp only [Option.map_eq_some_iff, Prod.mk.injEq] at ha; obtain ⟨_, _, _, rfl⟩ := ha; rfl
      · simp at ha
    · simp at ha
  | extract x i =>
    simp only [aop] at ha
    split at ha
    · simp only [Option.bind_eq_some_iff, Option.map_eq_some_iff, Prod.mk.injEq] at ha
      obtain ⟨_, _, _, _, _, rfl⟩ := ha; rfl
    · simp at ha
  | build t parts =>
    simp only [aop] at ha
    split at ha
    · split at ha
      · simp only [Option.map_eq_some_iff, Prod.mk.injEq] at ha; obtain ⟨_, _, _, rfl⟩ := ha; rfl
      · simp at ha
    · simp at ha
  | _ => simp [aop] at ha

theorem wanted_rel' {fr : Fr} {a : Act} {ops : List Oper} {o : Oper} {b : Bool} (h : ∀ (j : Nat) (want : Bool) (d : Tmp), o.guard = some (j, want) → (ops[j]?).bind (·.dst) = some d → avR ρ (fr.get d) (a.tmps.getD d undef)) (hw : wantedA ops fr o = some b) : Region.wanted o (yielded ops.toArray a.tmps) = b := by
  unfold wantedA at hw
  unfold Region.wanted
  split at hw
  · rename_i hg; simp at hw; subst hw; simp [hg]
  · rename_i j want hg
    simp only [hg]
    split at hw
    · rename_i d hd
      have hv := h j want d hg hd
      unfold yielded
      have hd' : ((ops.toArray[j]?).bind (·.dst)) = some d := by simpa using hd
      rw [hd']
      simp only [Option.bind_some]
      have hget : a.tmps.getD d undef = (a.tmps[d]?).getD undef := by simp
      rw [hget] at hv
      split at hw
      · rename_i b' hb
        rw [hb] at hv
        simp at hw; subst hw
        cases ht : a.tmps[d]? with
        | none =>
          rw [ht] at hv
          have : undef = Value.bool b' := hv
          cases this
        | some v =>
          rw [ht] at hv
          have : v = Value.bool b' := hv
          subst this
          simp
      · rename_i hb
        rw [hb] at hv
        simp at hw; subst hw
        cases ht : a.tmps[d]? with
        | none => simp
        | some v =>
          rw [ht] at hv
          obtain ⟨vs, e, _⟩ := hv
          have e : v = .tuple vs := e
          subst e
          simp
      · simp at hw
    · simp at hw

theorem hE_get (i : Nat) : hE.get i = none := rfl

theorem Rel.emp {w : World} : Rel ρ hE.get hE.ro w := ⟨fun i l h => absurd h (by rw [hE_get]; simp), fun i j l l' h => absurd h (by rw [hE_get]; simp)⟩

/-- What an operation does that sees no block. -/
theorem Did.alone {g : G} {ro : Nat} {w : World} (hR : Rel ρ g ro w) {id : Nat} (hro : ro ≤ id) {v : AV} {he : H} {r : Result Next} (h : Did ρ hE id w v he r) (hb : ∀ k, k ≠ id → he.get k = none) :
    ∃ v' w' ρ', (r = .ok (.value v') w' ∨ (r = .ok .skip w' ∧ v' = undef)) ∧ avR ρ' v v' ∧ Rel ρ' (G.or he.get g) ro w' ∧ Stp ρ ρ' g (G.or he.get g) ro w w' ∧ (∀ i, ρ i = none → i ≠ id → ρ' i = none) := by
  obtain ⟨v', w', ρ', hr, hv', hR', hst, hro', hnx', hfr'⟩ := h
  have e0 : G.or hE.get g = g := funext fun x => by unfold G.or; rw [hE_get]
  have hR0 : Rel ρ (G.or hE.get g) ro w := by rw [e0]; exact hR
  have hR1 : Rel ρ' he.get ro w' := hR'.sub (fun _ _ h => h) fun i _ _ _ => by rw [hro']; exact Nat.zero_le _
  have hst1 : Stp ρ ρ' hE.get he.get ro w w' := { hst with
    keep := fun b hb hn => hst.keep b hb fun ⟨i, l, p, _, h2, _⟩ => by rw [hE_get] at h2; cases h2
    wr := fun b hb ⟨i, l, p, _, h2, h3, h4⟩ => by
      obtain ⟨i', l', p', _, h2', _⟩ := hst.wr b hb ⟨i, l, p, Nat.zero_le _, h2, h3, h4⟩
      rw [hE_get] at h2'; cases h2' }
  obtain ⟨f1, f2⟩ := hR0.frame (fun i l _ => hE_get i) hR1 hst1 fun i hi => by rw [hE_get, hb i (by omega)]
  rw [e0] at f2
  exact ⟨v', w', ρ', hr, hv', f1, f2, hfr'⟩

end

section
variable {P : Program} {X : Env} {cf : CallF} {nt c : Nat} {ops : List Oper} {S : Nat → DS} {ρ0 : Rho} {g0 : G} {ro : Nat} {w0 : World}

/-- The next operation makes a block. -/
theorem J.make {listed : Array Bool} {a : Act} {w : World} {ρ : Rho} {g : G} {K : Nat} (st : Stat X ops) (hS : ∀ j o, ops[j]? = some o → DStep X cf nt c ops j o (S j) (S (j + 1))) (h : J X nt c ops S ρ0 g0 ro w0 listed a w ρ g K) {j : Nat} {o : Oper} (hx : Nxt X ops listed j o)
    (hN : isN o.op = true) {l : List Sc} (hh : (S (j + 1)).h = (S j).h.put (c + j) l) {v : AV} {v' : Value} {ρ' : Rho} {w' : World} {g' : G} (hv : avR ρ' v v') (hp : putS nt (S j).fr o.dst v = some (S (j + 1)).fr)
    (hrel : Rel ρ' g' ro w') (hg : ∀ x, g' x = if x = c + j then some l else g x) (hstp : Stp ρ ρ' g g' ro w w') (hf : ∀ i, ρ i = none → i ≠ c + j → ρ' i = none) :
    J X nt c ops S ρ0 g0 ro w0 (listed.setIfInBounds j true) (a.put o.dst v') w' ρ' g' K := by
  have hj := (List.getElem?_eq_some_iff.1 hx.op).1
  have hjs : j < listed.size := by rw [h.size]; exact hj
  obtain ⟨s1, s2, s3⟩ := h.slots' st hS hx hstp.ext hv hp
  have hnw : isW X o.op = false := by cases hop : o.op <;> simp [hop, isN, isW] at hN ⊢
  have hnx := h.nx
  refine ⟨by simp [h.size], fun k hk i hb => ?_, h.kn, fun k ok hok hwk => ?_, h.k0, s1, s2, s3, hrel, fun x hx' => ?_, fun x i hxi => ?_, h.stp.trans hstp, fun i hi hD => ?_, fun k hk => ?_, fun k hk hk0 => ?_, h.ro_, h.nx, h.low, h.born, h.roc⟩
  · rw [D_set hjs] at hk ⊢
    rcases hk with hk | rfl
    · exact .inl (h.closed k hk i hb)
    · exact .inl (hx.bef i hb)
  · rw [D_set hjs, ← h.kw k ok hok hwk]
    constructor
    · rintro (h1 | rfl)
      · exact h1
      · rw [hx.op] at hok; injection hok with hok; subst hok; rw [hnw] at hwk; cases hwk
    · exact .inl
  · rw [hg, if_neg (fun e => hx' j ⟨e, o, hx.op, hN⟩), h.g1 x hx']
  · by_cases hij : i = j
    · subst hij
      rw [hg, if_pos hxi.1, if_pos ((D_set hjs i).2 (.inr rfl))]
      have hk := h.kn
      rw [stay hS (x := x) (a := i + 1) (fun i' hi' => by have := hxi.uniq hi'; omega) (max K (i + 1)) (by omega) (by omega) fun k h1 h2 hw => ?_, hh, H.get_put, if_pos hxi.1]
      refine ⟨i, hxi, ?_⟩
      obtain ⟨ok, hok, hwk, _⟩ := hw
      exact hx.notAfter h.closed ((h.kw k ok hok hwk).2 (by omega))
    · have hne : x ≠ c + j := by have := hxi.1; omega
      rw [hg, if_neg hne, h.g2 x i hxi]
      by_cases hD : listed.getD i false = true
      · rw [if_pos hD, if_pos ((D_set hjs i).2 (.inl hD))]
      · rw [if_neg hD, if_neg]
        rw [D_set hjs]
        rintro (h1 | h1)
        · exact hD h1
        · exact hij h1
  · have hij : i ≠ j := fun e => by subst e; rw [(D_set hjs i).2 (.inr rfl)] at hD; cases hD
    have hD' : listed.getD i false = false := by
      cases hq' : listed.getD i false with
      | false => rfl
      | true => rw [(D_set hjs i).2 (.inl hq')] at hD; cases hD
    exact hf _ (h.f1 i hi hD') (by omega)
  · exact hf k (h.f2 k hk) (by omega)
  · exact hf k (h.f3 k hk hk0) (by omega)

/-- What the next operation reads is what it reads in the text. -/
theorem J.reads {listed : Array Bool} {a : Act} {w : World} {ρ : Rho} {g : G} {K : Nat} (st : Stat X ops) (hS : ∀ j o, ops[j]? = some o → DStep X cf nt c ops j o (S j) (S (j + 1))) (h : J X nt c ops S ρ0 g0 ro w0 listed a w ρ g K) {j : Nat} {o : Oper} (hx : Nxt X ops listed j o)
    (hnw : isW X o.op = false) {b off : Nat} {l : List Sc} (hc : b < c ∨ c + ops.length ≤ b ∨ ((befs ops).getD j 0).testBit (b - c) = true) (hl : (S j).h.load b off l.length = some l) (hsb : sameBefore ((befs ops).getD j 0) b off l (S j).ss = true) (hsp : (⟨j, b, off, l⟩ : Lo) ∈ (S (j + 1)).sp) :
    ∃ bl, g b = some bl ∧ off + l.length ≤ bl.length ∧ l = (bl.drop off).take l.length := by
  have hj := (List.getElem?_eq_some_iff.1 hx.op).1
  have hN : ∀ i, NId c ops b i → ((befs ops).getD j 0).testBit i = true := fun i hi => by
    obtain ⟨e, oi, hoi, _⟩ := hi
    have := (List.getElem?_eq_some_iff.1 hoi).1
    rcases hc with hc | hc | hc
    · omega
    · omega
    · rwa [show b - c = i by omega] at hc
  have hNj : ∀ i, NId c ops b i → i < j := fun i hi => bef_lt st j o hx.op i (hN i hi)
  have hkn := h.kn
  -- one step of the text
  have one : ∀ m, m < ops.length → ¬ WW X ops S m → (∀ i, NId c ops b i → i < m) → (S (m + 1)).h.get b = (S m).h.get b := fun m hm hw hn =>
    stay hS (x := b) (a := m) hn (m + 1) (by omega) (by omega) fun k h1 h2 hwk => by
      have : k = m := by omega
      subst this
      exact absurd hwk hw
  have claim : ∀ M, K ≤ M → M ≤ ops.length → (M ≤ j ∨ M = K) → (∀ i, NId c ops b i → i < M) → (S M).h.load b off l.length = some l := by
    intro M hKM hMn hMj hNM
    by_cases hle : M ≤ j
    · -- back from j
      have down : ∀ d m, m + d = j → M ≤ m → (S m).h.load b off l.length = some l := by
        intro d
        induction d with
        | zero => intro m e _; have : m = j := by omega
                  subst this; exact hl
        | succ d ih =>
          intro m e hm
          have ih' := ih (m + 1) (by omega) (by omega)
          by_cases hw : WW X ops S m
          · obtain ⟨om, hom, hwm, hwant⟩ := id hw
            obtain ⟨v, h', _, _, _, _, _, hss⟩ := (hS m om hom).write hwm hwant
            have hmem : (⟨m, (S m).h⟩ : Sn) ∈ (S j).ss := (notes_stay hS (a := m + 1) j (by omega) (by omega)).2 _ (by rw [hss]; simp)
            have hs := allB_mem hsb hmem
            simp only [Bool.or_eq_true, decide_eq_true_eq] at hs
            rcases hs with hs | hs
            · have := (h.kw m om hom hwm).1 (hx.bef m hs); omega
            · exact hs
          · have e1 := one m (by omega) hw fun i hi => by have := hNM i hi; omega
            unfold H.load at ih' ⊢
            rw [← e1]; exact ih'
      exact down (j - M) M (by omega) (Nat.le_refl _)
    · have hMK : M = K := by omega
      have up : ∀ d, j + d ≤ K → (S (j + d)).h.load b off l.length = some l := by
        intro d
        induction d with
        | zero => intro _; exact hl
        | succ d ih =>
          intro hd
          have ih' := ih (by omega)
          by_cases hw : WW X ops S (j + d)
          · obtain ⟨om, hom, hwm, hwant⟩ := id hw
            have hdj : d ≠ 0 := by
              rintro rfl
              rw [Nat.add_zero, hx.op] at hom
              injection hom with hom
              subst hom
              rw [hnw] at hwm; cases hwm
            obtain ⟨v, h', _, _, hsl, _, _, _⟩ := (hS (j + d) om hom).write hwm hwant
            have hmem : (⟨j, b, off, l⟩ : Lo) ∈ (S (j + d)).sp := (notes_stay hS (a := j + 1) (j + d) (by omega) (by omega)).1 _ hsp
            have hs := allB_mem hsl hmem
            simp only [Bool.or_eq_true, decide_eq_true_eq] at hs
            rcases hs with hs | hs
            · rw [hx.notAfter h.closed ((h.kw _ om hom hwm).2 (by omega))] at hs; cases hs
            · exact hs
          · have e1 := one (j + d) (by omega) hw fun i hi => by have := hNj i hi; omega
            unfold H.load at ih' ⊢
            rw [show j + (d + 1) = j + d + 1 by omega, e1]; exact ih'
      rw [hMK]
      have := up (K - j) (by omega)
      rwa [show j + (K - j) = K by omega] at this
  by_cases hex : ∃ i, NId c ops b i
  · obtain ⟨i, hi⟩ := hex
    have hij := hNj i hi
    rw [h.g2 b i hi, if_pos (hx.bef i (hN i hi))]
    have := claim (max K (i + 1)) (by omega) (by omega) (by omega) fun i' hi' => by have := hi.uniq hi'; omega
    exact H.load_get this
  · rw [h.g1 b fun i hi => hex ⟨i, hi⟩]
    exact H.load_get (claim K (Nat.le_refl _) hkn (.inr rfl) fun i hi => absurd ⟨i, hi⟩ hex)

end
end Go.AM
