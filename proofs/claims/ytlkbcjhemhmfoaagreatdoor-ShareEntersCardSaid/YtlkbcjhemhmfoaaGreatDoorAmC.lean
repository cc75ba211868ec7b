/- A region whose order is drawn comes to what it comes to in the text's order. No program here. -/
import Derived.Test.YtlkbcjhemhmfoaaGreatDoorAmB
set_option linter.unusedSimpArgs false
set_option linter.unusedVariables false
set_option linter.unnecessarySimpa false
namespace Go.AM
open Go

section
variable {P : Program} {X : Env} {cf : CallF} {nt c : Nat} {ops : List Oper} {S : Nat → DS} {ρ0 : Rho} {g0 : G} {ro : Nat} {w0 : World}

theorem mem_looks {o : Oper} {t : Tmp} (h : Operand.tmp t ∈ o.op.operands.toList) : t ∈ o.looksAt ops.toArray := by
  unfold Oper.looksAt
  exact List.mem_append_left _ (List.mem_filterMap.2 ⟨_, h, rfl⟩)
theorem mem_guard {o : Oper} {j : Nat} {want : Bool} {d : Tmp} (hg : o.guard = some (j, want)) (hd : (ops[j]?).bind (·.dst) = some d) : d ∈ o.looksAt ops.toArray := by
  unfold Oper.looksAt
  refine List.mem_append_right _ ?_
  rw [hg]
  have hd' : ((ops.toArray[j]?).bind (·.dst)) = some d := by simpa using hd
  simp only [hd']
  simp

theorem J.step (hcf : CallOK P cf) (hT : X.T = tyOf P) (hSE : SEqOK P X) {listed : Array Bool} {a : Act} {w : World} {ρ : Rho} {g : G} {K : Nat} (st : Stat X ops) (hS : ∀ j o, ops[j]? = some o → DStep X cf nt c ops j o (S j) (S (j + 1))) (hpre : ∀ x j, NId c ops x j → (S 0).h.get x = none) (h : J X nt c ops S ρ0 g0 ro w0 listed a w ρ g K)
    {j : Nat} {o : Oper} (hx : Nxt X ops listed j o) {Q : Exit → Act → World → Prop} {C : Act → World → Prop} (hK : ∀ a' w' ρ' g' K', J X nt c ops S ρ0 g0 ro w0 (listed.setIfInBounds j true) a' w' ρ' g' K' → C a' w') : wpOp P ops.toArray Q j C a w := by
  classical
  have hstep := hS j o hx.op
  have hj := (List.getElem?_eq_some_iff.1 hx.op).1
  have hoi : ops.toArray[j]? = some o := by simpa using hx.op
  have hs' := hstep
  unfold DStep drawStep at hs'
  simp only [Option.bind_eq_some_iff] at hs'
  obtain ⟨b, hb, hs⟩ := hs'
  have hw := wanted_rel' (ρ := ρ) (a := a) (fun g want d hg hd => h.look st hx (mem_guard hg hd)) hb
  unfold wpOp
  rw [hoi]
  dsimp only
  rw [hw]
  have hroc := h.roc
  have hnx := h.nx
  have hid : ρ (c + j) = none := h.f1 j hj hx.out
  let ev : Operand → AV := fun x => if x ∈ o.op.operands.toList then (S j).fr.ev x else .top
  have hev : ∀ x, avR ρ (ev x) (a.eval x) := by
    intro x
    dsimp only [ev]
    split
    · rename_i hm
      cases x with
      | tmp t => exact h.look st hx (mem_looks hm)
      | const v => exact constAV_rel ρ v
      | func f => exact ⟨#[], rfl, trivial⟩
      | global g => trivial
    · trivial
  have hcong : ∀ hh id, aop X (S j).fr.ev hh id o.op = aop X ev hh id o.op := fun hh id => aop_congr fun x hm => (if_pos hm).symm
  have hcong2 : callee (S j).fr.ev o.op = callee ev o.op := callee_congr fun x hm => (if_pos hm).symm
  cases b with
  | false =>
    simp only [Bool.false_eq_true, if_false, Option.map_eq_some_iff, Prod.mk.injEq] at hs ⊢
    obtain ⟨f1, hp, hf, hh, hsp, hss⟩ := hs
    rw [hf] at hp
    obtain ⟨K', hJ⟩ := h.quiet st hS hpre hx (fun ⟨o', ho', _, hw'⟩ => by rw [hx.op] at ho'; injection ho' with ho'; subst ho'; rw [hb] at hw'; cases hw') (fun _ => hb) (undef_rel ρ) hp h.rel (Stp.refl ..) (fun _ _ _ h => h) (fun _ h _ => h)
    exact hK _ _ _ _ _ hJ
  | true =>
    simp only [if_true] at hs ⊢
    refine .inl ?_
    by_cases hww : isW X o.op = true
    · -- it writes
      obtain ⟨v, h', hop, hh, hsl, hp, hsp, hss⟩ := hstep.write hww hb
      obtain ⟨n1, n2, e1, e2, hsub⟩ := h.masked st hS hx (.inl hww)
      obtain ⟨m1, m2⟩ := maskH_nx c (maskOf ops ((befs ops).getD j 0)) (S j).h
      have hRm : Rel ρ (maskH (S j).h c (maskOf ops ((befs ops).getD j 0))).get (maskH (S j).h c (maskOf ops ((befs ops).getD j 0))).ro w := by
        rw [m2, n2]; exact h.rel.sub hsub (fun _ _ _ h => h)
      by_cases hc : isCall o.op = true
      · rw [if_pos hc] at hop
        simp only [Option.bind_eq_some_iff, Prod.exists] at hop
        obtain ⟨g', args, hcal, hcall⟩ := hop
        rw [hcong2] at hcal
        obtain ⟨vs, hvs, hrun⟩ := callee_run2 hev hcal w
        obtain ⟨hent, hcalls⟩ := hcf g' args _ v h' hcall
        unfold Oper.wp
        rw [hrun, hent]
        refine Calls.mono (hcalls ρ w vs hRm (by rw [m1, m2, n1, n2]; omega) (fun i hi => h.f2 i (by rw [m1, n1] at hi; exact hi)) hvs) fun e w' ⟨v', ρ', he, hv', hR', hst, hro', hnx', hfr', hlow, hborn⟩ => ?_
        subst he
        rw [m2, n2] at hst hro' hlow
        rw [m1] at hnx' hfr' hborn
        rw [hro'] at hR'
        obtain ⟨K', g2, hJ⟩ := h.write st hS hx hww hh hv' hp hR' hst hro' hnx' hlow (fun i hi _ => hborn i hi) (fun i hi _ => hfr' i hi)
        exact hK _ _ _ _ _ hJ
      · rw [if_neg hc, hcong] at hop
        have hlow := aop_low (by rw [m2, n2]; omega) hop
        have hborn := aop_born hop
        obtain ⟨v', w', ρ', hr, hv', hR', hst, hro', hnx', hfr'⟩ := aop_did (o := o) hT hSE hRm hid (by rw [m2, n2]; omega) hev hop
        rw [m2, n2] at hst hro' hlow
        rw [m1] at hnx'
        rw [hro'] at hR'
        obtain ⟨K', g2, hJ⟩ := h.write st hS hx hww hh hv' hp hR' hst hro' (by omega) hlow (fun i _ hi => hborn i hi) (fun i hi hne _ => hfr' i hi hne)
        have hk := hK _ _ _ _ _ hJ
        rcases hr with hr | ⟨hr, rfl⟩
        · exact Oper.wp_value hr hk
        · exact Oper.wp_skip hr hk
    · have hww' : isW X o.op = false := by simpa using hww
      have nW : ¬ WW X ops S j := fun ⟨o', ho', hwo, _⟩ => by rw [hx.op] at ho'; injection ho' with ho'; subst ho'; exact hww hwo
      rw [if_neg hww] at hs
      by_cases hc : isCall o.op = true
      · -- a call that only reads
        rw [if_pos hc] at hs
        simp only [Option.bind_eq_some_iff, Prod.exists] at hs
        obtain ⟨g', args, hcal, v, h', hcall, hs⟩ := hs
        split at hs
        · rename_i hflat
          simp only [Option.map_eq_some_iff, Prod.mk.injEq] at hs
          obtain ⟨f1, hp, hf, hh, hsp, hss⟩ := hs
          rw [hf] at hp
          obtain ⟨n1, n2, e1, e2, hsub⟩ := h.masked st hS hx (.inr hc)
          obtain ⟨m1, m2⟩ := maskH_nx c (maskOf ops ((befs ops).getD j 0)) (S j).h
          rw [hcong2] at hcal
          obtain ⟨vs, hvs, hrun⟩ := callee_run2 hev hcal w
          obtain ⟨hent, hcalls⟩ := hcf g' args _ v h' hcall
          unfold Oper.wp
          rw [hrun, hent]
          have hnone : ∀ i, (maskH (S j).h c (maskOf ops ((befs ops).getD j 0))).nx ≤ i → ρ i = none := fun i hi => h.f2 i (by rw [m1, n1] at hi; exact hi)
          refine Calls.mono (hcalls ρ w vs (h.rel.sub hsub fun i l _ hi => ?_) (Nat.le_refl _) hnone hvs) fun e w' ⟨v', ρ', he, hv', hR', hst, hro', hnx', hfr', hlow, hborn⟩ => ?_
          · have hi : (maskH (S j).h c (maskOf ops ((befs ops).getD j 0))).nx ≤ i := hi
            rw [m1, n1] at hi; omega
          · subst he
            have nokeep : ∀ b, ¬ Wr ρ (maskH (S j).h c (maskOf ops ((befs ops).getD j 0))).get (maskH (S j).h c (maskOf ops ((befs ops).getD j 0))).nx b := fun b ⟨i, l, p, hi, _, hp, _⟩ => by rw [hnone i hi] at hp; cases hp
            have hkeep : ∀ b, b < w.heap.size → w'.heap[b]? = w.heap[b]? := fun b hb => hst.keep b hb (nokeep b)
            obtain ⟨K', hJ⟩ := h.quiet st hS hpre hx nW (fun hn => by cases hop : o.op <;> simp [hop, isN, isCall] at hn hc) (flat_rel (ρ' := ρ) hflat hv') hp (h.rel.world hkeep) ⟨Rho.le_refl ρ, hst.os, hst.tape, hst.output, hst.size, fun b hb _ => hkeep b hb, fun _ _ h => h, hst.fz⟩ (fun _ _ _ h => h) (fun _ h _ => h)
            exact hK _ _ _ _ _ hJ
        · simp at hs
      · rw [if_neg hc] at hs
        by_cases hN : isN o.op = true
        · -- a new block
          rw [if_pos hN] at hs
          simp only [Option.bind_eq_some_iff, Option.map_eq_some_iff, Prod.exists, Prod.mk.injEq] at hs
          obtain ⟨v, he, hop, l, hl, f1, hp, hf, hh, hsp, hss⟩ := hs
          rw [hf] at hp
          rw [hcong] at hop
          have hborn : ∀ k, k ≠ c + j → he.get k = none := fun k hk => by
            cases hq : he.get k with
            | none => rfl
            | some y => exact absurd (hE_get k) (aop_born hop k hk (by rw [hq]; simp))
          obtain ⟨v', w', ρ', hr, hv', hR', hst, hfr'⟩ := (aop_did (o := o) hT hSE Rel.emp hid (Nat.zero_le _) hev hop).alone h.rel (by omega) hborn
          have hg : ∀ x, G.or he.get g x = if x = c + j then some l else g x := fun x => by
            unfold G.or
            by_cases e : x = c + j
            · subst e; rw [hl, if_pos rfl]
            · rw [hborn x e, if_neg e]
          have hJ := h.make st hS hx hN hh.symm hv' hp hR' hg hst hfr'
          have hk := hK _ _ _ _ _ hJ
          rcases hr with hr | ⟨hr, rfl⟩
          · exact Oper.wp_value hr hk
          · exact Oper.wp_skip hr hk
        · have hN' : isN o.op = false := by simpa using hN
          rw [if_neg hN] at hs
          -- what is left: no block is made or written
          have fin : ∀ {v : AV} {g1 : G} {v' : Value} {w' : World} {ρ' : Rho}, putS nt (S j).fr o.dst v = some (S (j + 1)).fr → avR ρ' v v' → Rel ρ' g ro w' → Stp ρ ρ' g g ro w w' → (∀ i, ρ i = none → i ≠ c + j → ρ' i = none) →
              ((execOp a.eval o).run P w = .ok (.value v') w' ∨ ((execOp a.eval o).run P w = .ok .skip w' ∧ v' = undef)) → o.wp P a w C Q := fun {v _ v' w' ρ'} hp hv' hR' hst hfr' hr => by
            obtain ⟨K', hJ⟩ := h.quiet st hS hpre hx nW (fun hn => absurd hn hN) hv' hp hR' hst (fun k hk hne he => hfr' _ he (by omega)) (fun k hk hkk => hfr' _ hk (by omega))
            have hk := hK _ _ _ _ _ hJ
            rcases hr with hr | ⟨hr, rfl⟩
            · exact Oper.wp_value hr hk
            · exact Oper.wp_skip hr hk
          split at hs
          · rename_i t x hopx
            split at hs
            · rename_i b' off hevx
              split at hs
              · simp at hs
              · rename_i hty
                split at hs
                · rename_i hcond
                  simp only [Option.bind_eq_some_iff] at hs
                  obtain ⟨l, hl, hs⟩ := hs
                  split at hs
                  · rename_i hsb
                    simp only [Option.bind_eq_some_iff, Option.map_eq_some_iff, Prod.mk.injEq] at hs
                    obtain ⟨v, hv, f1, hp, hf, hh, hsp, hss⟩ := hs
                    rw [hf] at hp
                    have hlen : l.length = (X.T t).size := by
                      obtain ⟨bl, _, h1, h2⟩ := H.load_get hl
                      rw [h2, List.length_take, List.length_drop]; omega
                    obtain ⟨bl, hgb, hble, hbl⟩ := h.reads st hS hx hww' hcond (by rw [hlen]; exact hl) hsb (by rw [← hsp]; simp)
                    let h1 : H := H.put ⟨.nil, 0, ro⟩ b' bl
                    have h1g : ∀ x, h1.get x = if x = b' then some bl else none := fun x => by
                      show (H.put ⟨.nil, 0, ro⟩ b' bl).get x = _
                      rw [H.get_put]
                      split
                      · rfl
                      · rfl
                    have hR1 : Rel ρ h1.get h1.ro w := h.rel.sub (fun i l hi => by
                      rw [h1g] at hi
                      split at hi
                      · rename_i e; subst e; rw [← hi]; exact hgb
                      · cases hi) (fun _ _ _ h => h)
                    have hload : h1.load b' off (X.T t).size = some l := by
                      unfold H.load
                      rw [h1g, if_pos rfl, Option.bind_some, if_pos (by omega), ← hlen, ← hbl]
                    have hop : aop X (S j).fr.ev h1 (c + j) o.op = some (v, h1) := by
                      rw [hopx]
                      simp only [aop, hevx, if_neg hty, hload, Option.bind_some, hv, Option.map_some]
                    rw [hcong] at hop
                    obtain ⟨v', w', ρ', hr, hv', hR', hst, hro', hnx', hfr'⟩ := aop_did (o := o) hT hSE hR1 hid (show ro ≤ c + j by omega) hev hop
                    have e0 : G.or h1.get (fun x => if x = b' then none else g x) = g := funext fun x => by
                      unfold G.or
                      rw [h1g]
                      by_cases e : x = b'
                      · subst e; rw [if_pos rfl, hgb]
                      · rw [if_neg e]; simp [e]
                    have hR0 : Rel ρ (G.or h1.get (fun x => if x = b' then none else g x)) ro w := by rw [e0]; exact h.rel
                    obtain ⟨r1, r2⟩ := hR0.frame (gB := fun x => if x = b' then none else g x) (fun i l hi => by
                      rw [h1g]
                      split
                      · rename_i e; simp [e] at hi
                      · rfl) hR' hst (fun _ _ => rfl)
                    rw [e0] at r1 r2
                    exact fin (g1 := g) hp hv' r1 r2 hfr' hr
                  · simp at hs
                · simp at hs
            · simp at hs
          · simp only [Option.bind_eq_some_iff, Option.map_eq_some_iff, Prod.exists, Prod.mk.injEq] at hs
            obtain ⟨v, he, hop, f1, hp, hf, hh, hsp, hss⟩ := hs
            rw [hf] at hp
            rw [hcong] at hop
            have hee := aop_keep hN' hww' hop
            subst hee
            obtain ⟨v', w', ρ', hr, hv', hR', hst, hfr'⟩ := (aop_did (o := o) hT hSE Rel.emp hid (Nat.zero_le _) hev hop).alone h.rel (by omega) fun k _ => hE_get k
            have e0 : G.or hE.get g = g := funext fun x => by unfold G.or; rw [hE_get]
            rw [e0] at hR' hst
            exact fin (g1 := g) hp hv' hR' hst hfr' hr

theorem J.all (hcf : CallOK P cf) (hT : X.T = tyOf P) (hSE : SEqOK P X) (st : Stat X ops) (hS : ∀ j o, ops[j]? = some o → DStep X cf nt c ops j o (S j) (S (j + 1))) (hpre : ∀ x j, NId c ops x j → (S 0).h.get x = none) {Q : Exit → Act → World → Prop}
    (hQ : ∀ listed a w ρ g K, J X nt c ops S ρ0 g0 ro w0 listed a w ρ g K → (∀ i, i < ops.length → listed.getD i false = true) → Q .normal a w) :
    ∀ (n : Nat) (un : List Nat) (listed : Array Bool) (a : Act) (w : World) (ρ : Rho) (g : G) (K : Nat), un.length ≤ n → (∀ i, i < ops.length → listed.getD i false = false → i ∈ un) → J X nt c ops S ρ0 g0 ro w0 listed a w ρ g K → wpAny P .any ops.toArray Q n listed a w := by
  have getT : ∀ {listed : Array Bool} {i : Nat}, listed.size = ops.length → i < ops.length → listed.getD i true = listed.getD i false := fun {listed i} hsz hi => by
    simp [Array.getElem?_eq_getElem (show i < listed.size by omega)]
  -- some operation is always ready
  have ready : ∀ {listed : Array Bool}, listed.size = ops.length → Region.ready .any ops.toArray listed = [] → ∀ i, i < ops.length → listed.getD i false = true := by
    intro listed hsz hr i
    induction i using Nat.strongRecOn with
    | _ i ih =>
      intro hi
      cases hq : listed.getD i false with
      | true => rfl
      | false =>
        have ho : ops[i]? = some ops[i] := List.getElem?_eq_getElem hi
        have : i ∈ Region.ready .any ops.toArray listed := mem_ready.2 ⟨by rw [getT hsz hi]; exact hq, ops[i], by simpa using ho, fun e he hb => by
          have hlt := st.edge i _ ho e (by simpa using he) hb
          exact ih e.on hlt (by omega)⟩
        rw [hr] at this; cases this
  intro n
  induction n with
  | zero =>
    intro un listed a w ρ g K hun hin h
    have hnil : un = [] := by cases un with | nil => rfl | cons => simp at hun
    subst hnil
    have hall : ∀ i, i < ops.length → listed.getD i false = true := fun i hi => by
      cases hq : listed.getD i false with
      | true => rfl
      | false => have := hin i hi hq; cases this
    refine ⟨?_, hQ _ _ _ _ _ _ h hall⟩
    rw [List.eq_nil_iff_forall_not_mem]
    intro i hi
    obtain ⟨h1, o, ho, _⟩ := mem_ready.1 hi
    have hlt : i < ops.length := by have := (Array.getElem?_eq_some_iff.1 ho).1; simpa using this
    rw [getT h.size hlt, hall i hlt] at h1
    cases h1
  | succ n ih =>
    intro un listed a w ρ g K hun hin h
    refine ⟨fun hr => hQ _ _ _ _ _ _ h (ready h.size hr), fun j hj => ?_⟩
    obtain ⟨h1, o, ho, hedge⟩ := mem_ready.1 hj
    have hlt : j < ops.length := by have := (Array.getElem?_eq_some_iff.1 ho).1; simpa using this
    rw [getT h.size hlt] at h1
    have ho' : ops[j]? = some o := by simpa using ho
    have hx : Nxt X ops listed j o := ⟨ho', h1, fun i hb => by
      obtain ⟨e, he, hbi, hi⟩ := befs_spec ho' hb
      have hle := hedge e (by simpa using he) hbi
      rcases hi with rfl | hi
      · exact hle
      · exact h.closed _ hle i hi⟩
    refine h.step hcf hT hSE st hS hpre hx fun a' w' ρ' g' K' hJ => ih (un.erase j) _ a' w' ρ' g' K' ?_ (fun i hi hq => ?_) hJ
    · rw [List.length_erase_of_mem (hin j hlt h1)]; omega
    · have hjs : j < listed.size := by rw [h.size]; exact hlt
      have hne : i ≠ j := fun e => by subst e; rw [(D_set hjs i).2 (.inr rfl)] at hq; cases hq
      refine (List.mem_erase_of_ne hne).2 (hin i hi ?_)
      cases hq' : listed.getD i false with
      | false => rfl
      | true => rw [(D_set hjs i).2 (.inl hq')] at hq; cases hq

end

/-- A region whose order is drawn. -/
theorem drawA_run {P : Program} (hm : P.follows .mixedOrders = true) {X : Env} {cf : CallF} (hcf : CallOK P cf) (hT : X.T = tyOf P) (hSE : SEqOK P X) {nt : Nat} {ops : List Oper} (hok : drawOK X ops = true) {fr fr' : Fr} {h h' : H}
    (hd : drawA X cf nt h.nx ops (befs ops) 0 ops fr { h with nx := h.nx + ops.length } [] [] = some (fr', h')) {ρ : Rho} {a : Act} {w : World} (hfr : FrR ρ nt fr a) (hR : Rel ρ h.get h.ro w) (hro : h.ro ≤ h.nx) (hfresh : ∀ k, h.nx ≤ k → ρ k = none) {id : Nat} {Q : Exit → Act → World → Prop}
    (hQ : ∀ a' w' ρ', Ran nt h.nx ρ h w fr' h' a' w' ρ' → Q .normal a' w') : (Code.region id ops.toArray true).wp P Q a w := by
  obtain ⟨S, hS0, hSs, hSf, hSh⟩ := draw_text ops 0 fr _ [] [] fr' h' (by simp) (Nat.zero_le _) hd
  have st := stat_of hok
  have hS : ∀ j o, ops[j]? = some o → DStep X cf nt h.nx ops j o (S j) (S (j + 1)) := fun j o ho => hSs j o (Nat.zero_le _) ho
  have hhigh : ∀ x, h.nx ≤ x → h.get x = none := fun x hx => by
    cases hq : h.get x with
    | none => rfl
    | some l =>
      obtain ⟨b, base, room, hp, _⟩ := hR.blk x l hq
      rw [hfresh x hx] at hp; cases hp
  have hg0 : ∀ x, (S 0).h.get x = h.get x := fun x => by rw [hS0]; rfl
  have hpre : ∀ x j, NId h.nx ops x j → (S 0).h.get x = none := fun x j hx => by rw [hg0, hhigh x (by have := hx.1; omega)]
  refine wp_region_any hm ?_
  have hrep : ∀ i : Nat, (Array.replicate ops.toArray.size false).getD i false = false := fun i => by
    simp only [Array.getD_eq_getD_getElem?, Array.getElem?_replicate]
    split <;> rfl
  have hJ0 : J X nt h.nx ops S ρ h.get h.ro w (Array.replicate ops.toArray.size false) a { w with drawn := w.drawn + 1 } ρ h.get 0 := by
    refine ⟨by simp, fun j hj => ?_, Nat.zero_le _, fun k o _ _ => ?_, .inl rfl, fun t m hm hw => ?_, hfr.sz, hfr.df, hR.world fun _ _ => rfl, fun x _ => (hg0 x).symm, fun x j hx => ?_, ?_, fun i _ _ => hfresh _ (by omega), fun k hk => hfresh k ?_, fun k _ hk => hk, by rw [hS0], by rw [hS0]; exact Nat.le_refl _, fun i _ => hg0 i, fun i _ hi => by rw [hg0] at hi; exact hi, hro⟩
    · rw [hrep] at hj; cases hj
    · rw [hrep]; simp
    · have hst : (S m).fr.get t = (S 0).fr.get t := slot_stay hS m (Nat.zero_le _) hm fun k o _ hk ho hd => by
        have := (hw k o ho hd).2 hk
        rw [hrep] at this; cases this
      rw [hst, hS0]
      exact hfr.v t
    · rw [hrep, hhigh x (by have := hx.1; omega)]; rfl
    · exact ⟨Rho.le_refl ρ, rfl, rfl, rfl, Nat.le_refl _, fun _ _ _ => rfl, fun _ _ h => h, fun _ => rfl⟩
    · rw [hS0] at hk
      have hk : h.nx + ops.length ≤ k := hk
      omega
  refine J.all hcf hT hSE st hS hpre (ρ0 := ρ) (g0 := h.get) (ro := h.ro) (w0 := w) (fun listed a' w' ρ' g K hJ hall => hQ a' w' ρ' ?_) ops.toArray.size (List.range ops.length) _ a _ ρ h.get 0 (by simp) (fun i hi _ => List.mem_range.2 hi) hJ0
  have hkn := hJ.kn
  have hnoW : ∀ k, K ≤ k → ¬ WW X ops S k := fun k hk ⟨o, ho, hw, _⟩ => by
    have := (hJ.kw k o ho hw).1 (hall k (List.getElem?_eq_some_iff.1 ho).1); omega
  have hgf : ∀ x, g x = h'.get x := by
    intro x
    rw [← hSh]
    by_cases hex : ∃ i, NId h.nx ops x i
    · obtain ⟨i, hi⟩ := hex
      have hil : i < ops.length := (List.getElem?_eq_some_iff.1 hi.2.choose_spec.1).1
      rw [hJ.g2 x i hi, if_pos (hall i hil)]
      exact (stay hS (x := x) (a := max K (i + 1)) (fun i' hi' => by have := hi.uniq hi'; omega) ops.length (by omega) (Nat.le_refl _) fun k h1 h2 hw => absurd hw (hnoW k (by omega))).symm
    · rw [hJ.g1 x fun i hi => hex ⟨i, hi⟩]
      exact (stay hS (x := x) (a := K) (fun i hi => absurd ⟨i, hi⟩ hex) ops.length hkn (Nat.le_refl _) fun k h1 h2 hw => absurd hw (hnoW k h1)).symm
  obtain ⟨n1, n2⟩ := stay_nx hS (a := K) ops.length hkn (Nat.le_refl _) fun k h1 _ => hnoW k h1
  rw [hSh] at n1 n2
  have hro' : h'.ro = h.ro := n2.trans hJ.ro_
  have hgf' : g = h'.get := funext hgf
  subst hgf'
  have noN : ∀ x, x < h.nx → ∀ i, ¬ NId h.nx ops x i := fun x hx i hi => by have := hi.1; omega
  refine ⟨⟨fun t => ?_, hJ.sz, hJ.df⟩, by rw [hro']; exact hJ.rel, hJ.stp, hro', by have := hJ.nx; omega, fun i hi hii => ?_, fun i hi => ?_, fun i hi hn => ?_⟩
  · rw [← hSf]
    exact hJ.slots t ops.length (Nat.le_refl _) fun i o ho _ => ⟨fun _ => (List.getElem?_eq_some_iff.1 ho).1, fun hlt => hall i hlt⟩
  · rcases hii with hii | hii
    · exact hJ.f3 i hii hi
    · exact hJ.f2 i (by omega)
  · rw [hJ.g1 i (noN i (by omega))]; exact hJ.low i hi
  · rw [hJ.g1 i (noN i hi)] at hn; exact hJ.born i hi hn

end Go.AM
