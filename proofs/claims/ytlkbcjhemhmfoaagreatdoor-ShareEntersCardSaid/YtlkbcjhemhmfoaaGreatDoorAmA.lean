/- A region whose order is drawn: the operations that write, make blocks, read, call. No program here. -/
import Derived.Test.YtlkbcjhemhmfoaaGreatDoorAm9
set_option linter.unusedSimpArgs false
set_option linter.unusedVariables false
namespace Go.AM
open Go

section
variable {P : Program} {X : Env} {cf : CallF} {nt c : Nat} {ops : List Oper} {S : Nat → DS} {ρ0 : Rho} {g0 : G} {ro : Nat} {w0 : World}

/-- Which of the blocks are laid before an operation that writes or calls, all of them as in the text. -/
theorem J.masked {listed : Array Bool} {a : Act} {w : World} {ρ : Rho} {g : G} {K : Nat} (st : Stat X ops) (hS : ∀ j o, ops[j]? = some o → DStep X cf nt c ops j o (S j) (S (j + 1))) (h : J X nt c ops S ρ0 g0 ro w0 listed a w ρ g K) {j : Nat} {o : Oper} (hx : Nxt X ops listed j o) (ho : isW X o.op = true ∨ isCall o.op = true) :
    (S j).h.nx = (S K).h.nx ∧ (S j).h.ro = ro ∧ (∀ x, (∀ i, ¬ NId c ops x i) → (S j).h.get x = g x) ∧
    (∀ x i, NId c ops x i → ((befs ops).getD j 0).testBit i = true → (S j).h.get x = g x) ∧
    (∀ x l, (maskH (S j).h c (maskOf ops ((befs ops).getD j 0))).get x = some l → g x = some l) := by
  have hj := (List.getElem?_eq_some_iff.1 hx.op).1
  obtain ⟨hKj, hno⟩ := h.noW st hx ho
  have hnoW : ∀ k, K ≤ k → k < j → ¬ WW X ops S k := fun k h1 h2 ⟨ok, hok, hwk, _⟩ => by rw [hno k ok h1 h2 hok] at hwk; cases hwk
  obtain ⟨n1, n2⟩ := stay_nx hS (a := K) j hKj (by omega) hnoW
  have e1 : ∀ x, (∀ i, ¬ NId c ops x i) → (S j).h.get x = g x := fun x hx' => by
    rw [h.g1 x hx']
    exact stay hS (a := K) (fun i hi => absurd hi (hx' i)) j hKj (by omega) fun k h1 h2 hw => absurd hw (hnoW k h1 h2)
  have e2 : ∀ x i, NId c ops x i → ((befs ops).getD j 0).testBit i = true → (S j).h.get x = g x := fun x i hxi hb => by
    have hij := bef_lt st j o hx.op i hb
    rw [h.g2 x i hxi, if_pos (hx.bef i hb)]
    exact stay hS (x := x) (a := max K (i + 1)) (fun i' hi' => by have := hxi.uniq hi'; omega) j (by omega) (by omega) fun k h1 h2 hw => absurd hw (hnoW k (by omega) h2)
  refine ⟨n1, by rw [n2]; exact h.ro_, e1, e2, fun x l hl => ?_⟩
  rw [maskH_get] at hl
  split at hl
  · cases hl
  · rename_i hm
    by_cases hN : ∃ i, NId c ops x i
    · obtain ⟨i, hxi⟩ := hN
      obtain ⟨hxe, oi, hoi, hni⟩ := id hxi
      have hbit : ((befs ops).getD j 0).testBit i = true := by
        cases hb : ((befs ops).getD j 0).testBit i with
        | true => rfl
        | false =>
          refine absurd ⟨i, mem_maskOf.2 ⟨(List.getElem?_eq_some_iff.1 hoi).1, ?_, hb⟩, hxe⟩ hm
          rw [List.getD_eq_getElem?_getD, hoi]; exact hni
      rw [← e2 x i hxi hbit]; exact hl
    · rw [← e1 x fun i hi => hN ⟨i, hi⟩]; exact hl

/-- The next operation writes. -/
theorem J.write {listed : Array Bool} {a : Act} {w : World} {ρ : Rho} {g : G} {K : Nat} (st : Stat X ops) (hS : ∀ j o, ops[j]? = some o → DStep X cf nt c ops j o (S j) (S (j + 1))) (h : J X nt c ops S ρ0 g0 ro w0 listed a w ρ g K) {j : Nat} {o : Oper} (hx : Nxt X ops listed j o)
    (hw : isW X o.op = true) {h' : H} (hh : (S (j + 1)).h = unmaskH (S j).h c (maskOf ops ((befs ops).getD j 0)) h') {v : AV} {v' : Value} {ρ' : Rho} {w' : World} (hv : avR ρ' v v') (hp : putS nt (S j).fr o.dst v = some (S (j + 1)).fr)
    (hrel : Rel ρ' h'.get ro w') (hstp : Stp ρ ρ' (maskH (S j).h c (maskOf ops ((befs ops).getD j 0))).get h'.get ro w w') (hro : h'.ro = ro) (hnx : (S j).h.nx ≤ h'.nx) (hlow : ∀ i, i < ro → h'.get i = (maskH (S j).h c (maskOf ops ((befs ops).getD j 0))).get i)
    (hborn : ∀ i, i < (S j).h.nx → i ≠ c + j → h'.get i ≠ none → (maskH (S j).h c (maskOf ops ((befs ops).getD j 0))).get i ≠ none)
    (hf : ∀ i, ρ i = none → i ≠ c + j → (i < (S j).h.nx ∨ h'.nx ≤ i) → ρ' i = none) :
    ∃ K' g', J X nt c ops S ρ0 g0 ro w0 (listed.setIfInBounds j true) (a.put o.dst v') w' ρ' g' K' := by
  have hj := (List.getElem?_eq_some_iff.1 hx.op).1
  have hjs : j < listed.size := by rw [h.size]; exact hj
  obtain ⟨s1, s2, s3⟩ := h.slots' st hS hx hstp.ext hv hp
  obtain ⟨n1, n2, e1, e2, hsub⟩ := h.masked st hS hx (.inl hw)
  obtain ⟨hKj, hno⟩ := h.noW st hx (.inl hw)
  have hnoW : ∀ k, K ≤ k → k < j → ¬ WW X ops S k := fun k h1 h2 ⟨ok, hok, hwk, _⟩ => by rw [hno k ok h1 h2 hok] at hwk; cases hwk
  generalize hM : maskH (S j).h c (maskOf ops ((befs ops).getD j 0)) = hm at *
  have hmg : ∀ x, hm.get x = if ∃ i ∈ maskOf ops ((befs ops).getD j 0), x = c + i then none else (S j).h.get x := fun x => by rw [← hM]; exact maskH_get ..
  -- the part that it doesn't see
  let gB : G := fun x => if hm.get x = none then g x else none
  have hor : ∀ x, G.or hm.get gB x = g x := fun x => by
    unfold G.or
    cases e : hm.get x with
    | some l => exact (hsub x l e).symm
    | none => show (if hm.get x = none then g x else none) = g x; rw [e]; simp
  have hR2 : Rel ρ (G.or hm.get gB) ro w := h.rel.congr hor
  obtain ⟨r1, r2⟩ := hR2.frame (gB := gB) (fun i l hi => by
    have hi : (if hm.get i = none then g i else none) = some l := hi
    split at hi
    · assumption
    · cases hi) hrel hstp hlow
  have horf : G.or hm.get gB = g := funext hor
  rw [horf] at r2
  have nmask : ∀ x, (∀ i, ¬ NId c ops x i) → ¬ ∃ i ∈ maskOf ops ((befs ops).getD j 0), x = c + i := fun x hx' ⟨i, hi, e⟩ => by
    obtain ⟨h1, h2, _⟩ := mem_maskOf.1 hi
    rw [List.getD_eq_getElem?_getD, List.getElem?_eq_getElem h1] at h2
    exact hx' i ⟨e, _, List.getElem?_eq_getElem h1, h2⟩
  have masked_iff : ∀ x i, NId c ops x i → ((∃ k ∈ maskOf ops ((befs ops).getD j 0), x = c + k) ↔ ((befs ops).getD j 0).testBit i = false) := fun x i ⟨hxe, oi, hoi, hni⟩ => by
    constructor
    · rintro ⟨k, hk, e⟩
      have : k = i := by omega
      subst this
      exact (mem_maskOf.1 hk).2.2
    · intro hb
      exact ⟨i, mem_maskOf.2 ⟨(List.getElem?_eq_some_iff.1 hoi).1, by rw [List.getD_eq_getElem?_getD, hoi]; exact hni, hb⟩, hxe⟩
  -- an operation that makes a block is none that writes
  have hNne : ∀ x i, NId c ops x i → i ≠ j := fun x i ⟨_, oi, hoi, hni⟩ e => by
    subst e
    rw [hx.op] at hoi; injection hoi with hoi; subst hoi
    cases hop : o.op <;> simp [hop, isN, isW] at hni hw
  have hlt : ∀ x i, NId c ops x i → x < (S j).h.nx := fun x i ⟨hxe, oi, hoi, _⟩ => by
    have := (List.getElem?_eq_some_iff.1 hoi).1
    have := h.nx; omega
  have gne : ∀ x i, NId c ops x i → ((befs ops).getD j 0).testBit i = false → h'.get x = none := fun x i hxi hb => by
    cases hq : h'.get x with
    | none => rfl
    | some l =>
      have h1 := hborn x (hlt x i hxi) (fun e => hNne x i hxi (by have := hxi.1; omega)) (by rw [hq]; simp)
      rw [hmg, if_pos ((masked_iff x i hxi).2 hb)] at h1
      exact absurd rfl h1
  have noNc : ∀ x, x < c → ∀ i, ¬ NId c ops x i := fun x hx' i hi => by have := hi.1; omega
  have getNon : ∀ x, (∀ i, ¬ NId c ops x i) → (S (j + 1)).h.get x = h'.get x := fun x hx' => by rw [hh, unmaskH_get, if_neg (nmask x hx')]
  refine ⟨j + 1, G.or h'.get gB, ⟨by simp [h.size], fun k hk i hb => ?_, by omega, fun k ok hok hwk => ?_, .inr ⟨j, o, rfl, hx.op, hw⟩, s1, s2, s3, r1, fun x hx' => ?_, fun x i hxi => ?_, h.stp.trans r2, fun i hi hD => ?_, fun k hk => ?_, fun k hk hk0 => ?_, ?_, ?_, fun i hi => ?_, fun i hi hn => ?_, h.roc⟩⟩
  · rw [D_set hjs] at hk ⊢
    rcases hk with hk | rfl
    · exact .inl (h.closed k hk i hb)
    · exact .inl (hx.bef i hb)
  · rw [D_set hjs]
    rcases Nat.lt_trichotomy k j with hlt' | rfl | hlt'
    · refine ⟨fun _ => by omega, fun _ => .inl ?_⟩
      rw [h.kw k ok hok hwk]
      rcases Nat.lt_or_ge k K with h1 | h1
      · exact h1
      · have := hno k ok h1 hlt' hok; rw [hwk] at this; cases this
    · exact ⟨fun _ => by omega, fun _ => .inr rfl⟩
    · refine ⟨fun h1 => ?_, fun h1 => by omega⟩
      rcases h1 with h1 | h1
      · rw [h.kw k ok hok hwk] at h1; omega
      · omega
  · rw [getNon x hx']
    unfold G.or
    cases e : h'.get x with
    | some l => rfl
    | none =>
      show (if hm.get x = none then g x else none) = none
      split
      · rename_i hmn
        rw [hmg, if_neg (nmask x hx')] at hmn
        rw [← e1 x hx']; exact hmn
      · rfl
  · by_cases hD : listed.getD i false = true
    · rw [if_pos ((D_set hjs i).2 (.inl hD))]
      have hg := h.g2 x i hxi
      rw [if_pos hD] at hg
      cases hb : ((befs ops).getD j 0).testBit i with
      | false =>
        have e3 := gne x i hxi hb
        have e4 : hm.get x = none := by rw [hmg, if_pos ((masked_iff x i hxi).2 hb)]
        have e5 : G.or h'.get gB x = g x := by
          unfold G.or
          rw [e3]
          show (if hm.get x = none then g x else none) = g x
          rw [if_pos e4]
        rw [e5, hg]
        by_cases hij : i < j
        · rw [show max (j + 1) (i + 1) = j + 1 by omega, hh, unmaskH_get, if_pos ((masked_iff x i hxi).2 hb)]
          exact (stay hS (x := x) (a := max K (i + 1)) (fun i' hi' => by have := hxi.uniq hi'; omega) j (by omega) (by omega) fun k h1 h2 hw => absurd hw (hnoW k (by omega) h2)).symm
        · rw [show max (j + 1) (i + 1) = i + 1 by omega, show max K (i + 1) = i + 1 by omega]
      | true =>
        have hij := bef_lt st j o hx.op i hb
        rw [show max (j + 1) (i + 1) = j + 1 by omega, hh, unmaskH_get, if_neg (fun hc => by rw [(masked_iff x i hxi).1 hc] at hb; cases hb)]
        unfold G.or
        cases e : h'.get x with
        | some l => rfl
        | none =>
          show (if hm.get x = none then g x else none) = none
          split
          · rename_i hmn
            rw [hmg, if_neg (fun hc => by rw [(masked_iff x i hxi).1 hc] at hb; cases hb)] at hmn
            rw [← e2 x i hxi hb]; exact hmn
          · rfl
    · rw [if_neg (by rw [D_set hjs]; rintro (h1 | h1); exact hD h1; exact hNne x i hxi h1)]
      have hb : ((befs ops).getD j 0).testBit i = false := by
        cases hb : ((befs ops).getD j 0).testBit i with
        | false => rfl
        | true => exact absurd (hx.bef i hb) hD
      unfold G.or
      rw [gne x i hxi hb]
      show (if hm.get x = none then g x else none) = none
      split
      · rw [h.g2 x i hxi, if_neg hD]
      · rfl
  · have hij : i ≠ j := fun e => by subst e; rw [(D_set hjs i).2 (.inr rfl)] at hD; cases hD
    have hD' : listed.getD i false = false := by
      cases hq' : listed.getD i false with
      | false => rfl
      | true => rw [(D_set hjs i).2 (.inl hq')] at hD; cases hD
    have := h.nx
    exact hf _ (h.f1 i hi hD') (by omega) (.inl (by omega))
  · rw [hh, (unmaskH_nx ..).1] at hk
    have := h.nx
    exact hf k (h.f2 k (by omega)) (by omega) (.inr hk)
  · have := h.nx
    exact hf k (h.f3 k hk hk0) (by omega) (.inl (by omega))
  · rw [hh, (unmaskH_nx ..).2]; exact hro
  · rw [hh, (unmaskH_nx ..).1]; have := h.nx; omega
  · have hic : i < c := by have := h.roc; omega
    rw [getNon i (noNc i hic), hlow i hi, hmg, if_neg (nmask i (noNc i hic)), e1 i (noNc i hic), h.g1 i (noNc i hic)]
    exact h.low i hi
  · rw [getNon i (noNc i hi)] at hn
    have h1 := hborn i (by have := h.nx; omega) (by omega) hn
    rw [hmg, if_neg (nmask i (noNc i hi)), e1 i (noNc i hi), h.g1 i (noNc i hi)] at h1
    exact h.born i hi h1

end
end Go.AM
